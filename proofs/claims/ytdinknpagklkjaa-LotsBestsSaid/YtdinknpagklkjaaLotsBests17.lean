/- The rank of a set; whether it is free: the reference's walk. Conditions: the words read as a list. -/
import Derived.Test.YtdinknpagklkjaaLotsBests7
import Derived.Test.YtdinknpagklkjaaLotsBests8
import Derived.Test.YtdinknpagklkjaaLotsBests3
import Derived.Test.YtdinknpagklkjaaLotsBests2
namespace Go.Proofs.Ytdinknpagklkjaa
open Go.RowKit
attribute [local go_sem ↓] w_and w_or w_xor w_andNot w_and1 w_and255 w_xor1 w_or0 w_shl w_shl1 w_shr w_sub w_add w_sub1 w_add1
attribute [local go_sem] w_eq0 w_ne0 w_eq1 w_eq w_ne

set_option maxRecDepth 100000 in
theorem ref_Free (A : Option Addr) (n c : Nat) (l : List (BitVec 32)) (x : BitVec 32) (w : World) (hl : l.length = n) (hn : n ≤ 32) (hr : Els w w.heap.size 1 wcell A l) :
    Calls Try.prog 80 #[.slice A n c, .int .u32 (wN x)] w fun e w' => ∃ b : Bool, e = .returned (.bool b) ∧ (b = true ↔ FreeW l x n) ∧ w = w' := by
  have HS := fun (s : BitVec 32) => Lib.hid (ref_sum A n c l s w hl hn hr)
  clear hl hr
  go_enter Try.func80, Try.ntmps80
  go_wp2_with fail
  go_loopw [5] (fun i wr => ∃ s : BitVec 32, i = .int .u32 (wN s) ∧ Sb s x ∧ (∀ t, Sb t x → s.toNat < t.toNat → sumW l t n ≠ w0) ∧ w = wr) (fun i _ => (intOf i).toNat)
  case atStart => exact ⟨x, rfl, Sb_self x, fun t ht hlt => absurd (sub_le ht) (by omega), rfl⟩
  case round =>
    rename World => wr
    obtain ⟨s, rfl, hs, hno, rfl⟩ := hrel
    have HSB := Lib.hid hs
    have HNO := Lib.hid hno
    clear hs hno
    by_cases h0 : s = w0
    · have hg : ¬ (0 < wN s) := by rw [h0]; simp [wN_0]
      have hd : decide (0 < wN s) = false := decide_eq_false hg
      have H0 := Lib.hid h0
      clear h0 hg
      go_wp2_with fail
      go_ret
      refine ⟨true, rfl, ⟨fun _ t ht h1 => HNO.out t ht ?_, fun _ => rfl⟩, rfl⟩
      rw [H0.out]
      exact lot_pos h1
    · have hp := lot_pos h0
      have hg : 0 < wN s := by unfold wN; omega
      have HS1 := HS s
      have H0 := Lib.hid h0
      clear h0 hp
      go_wp2_with fail
      refine HS1.out.mono ?_
      clear HS1
      rintro e w' ⟨rfl, rfl⟩
      by_cases hz : sumW l s n = w0
      · have hzz : (sumW l s n == w0) = true := by simp [hz]
        have HZ := Lib.hid hz
        clear hz
        go_wp2_with fail
        go_ret
        exact ⟨false, rfl, ⟨fun h => (by cases h), fun h => absurd HZ.out (h s HSB.out H0.out)⟩, rfl⟩
      · have hzz : (sumW l s n == w0) = false := by simp [hz]
        have HZ := Lib.hid hz
        clear hz
        go_wp2_with fail
        go_roundw
        case rel =>
          refine ⟨wAnd (wSub s w1) x, rfl, lotNext_sb s x, fun t ht hlt => ?_, trivial⟩
          rcases Nat.lt_trichotomy t.toNat s.toNat with e | e | e
          · have := lotNext_top HSB.out ht e
            omega
          · rw [BitVec.eq_of_toNat_eq e]
            exact HZ.out
          · exact HNO.out t ht e
        case measure => exact lotNext_lt H0.out
theorem half_pow (k : Nat) : ((2 ^ (k + 1) : Nat) : Int) / 2 = ((2 ^ k : Nat) : Int) := by
  rw [Nat.pow_succ]
  omega
set_option maxRecDepth 100000 in
set_option maxHeartbeats 1000000 in
theorem ref_Rank (A : Option Addr) (n c : Nat) (l : List (BitVec 32)) (x : BitVec 32) (w : World) (hl : l.length = n) (hn : n ≤ 10) (hr : Els w w.heap.size 1 wcell A l) (hx : x.toNat < 2 ^ n) :
    Calls Try.prog 79 #[.slice A n c, .int .u32 (wN x)] w fun e w' => e = .returned (.int .i64 (rk ((bitsL x).map (lw l)).reverse)) ∧ Below w.heap.size w w' := by
  have HS := fun (s : BitVec 32) (w1 : World) (hb : Below w.heap.size w w1) => Lib.hid (ref_sum A n c l s w1 hl (by omega) ((hr.below hb).more hb.size))
  have hM0 := MapB.made (kv := lotV) w
  have hB0 := (Below.refl w.heap.size w).alloc (Nat.le_refl _) (.map #[] 0)
  have HM0 := Lib.hid hM0
  have HB0 := Lib.hid hB0
  have HX := Lib.hid hx
  have hrk : rk ((bitsL x).map (lw l)).reverse ≤ 10 := by
    have h1 := rk_le ((bitsL x).map (lw l)).reverse
    rw [List.length_reverse, List.length_map] at h1
    have h2 : (bitsL x).length ≤ n := by
      have hs : ∀ i ∈ bitsL x, i ∈ List.range n := fun i hi => List.mem_range.2 (bits_below hx i hi)
      have := (bitsL_nodup x).length_le_of_subset hs
      rwa [List.length_range] at this
    omega
  obtain ⟨R, hR⟩ : ∃ R, R = rk ((bitsL x).map (lw l)).reverse := ⟨_, rfl⟩
  rw [← hR] at hrk ⊢
  have HR := Lib.hid hR
  clear hl hr hM0 hB0 hx hR
  have hmk : (Instr.makeMap 173 none).run Try.prog w = .ok (.map (some w.heap.size)) (w.alloc (.map #[] 0)) := run_makeMap _ _
  go_enter Try.func79, Try.ntmps79
  go_wp2_with fail
  obtain ⟨S, hS⟩ : ∃ S, S = w.heap.size := ⟨_, rfl⟩
  rw [← hS] at HM0 ⊢
  have HSE := Lib.hid hS
  clear hS
  go_loopw [6, 7] (fun m i wr => ∃ (s : BitVec 32) (K : List (BitVec 32)), m = .int .i64 K.length ∧ i = .int .u32 (wN s) ∧ Sb s x ∧ SumsTo l x n K (s.toNat + 1) ∧ MapB wr S lotV (seenL K) ∧ Below w.heap.size w wr) (fun _ i _ => (intOf i).toNat)
  case atStart => exact ⟨x, [], rfl, rfl, Sb_self x, SumsTo.start l x n, HM0.out, HB0.out⟩
  case round =>
    clear HM0 HB0
    rename World => wr
    obtain ⟨s, K, rfl, rfl, hs, hk, hm, hb⟩ := hrel
    have HS1 := HS s wr hb
    have hlook := run_look (P := Try.prog) (keyL_word Try.underlying26) Try.underlying173 (z := .bool false) (fun u => by kernel_rfl) hm (sumW l s n) false
    rw [getK_seen] at hlook
    have HSB := Lib.hid hs
    have HK := Lib.hid hk
    have HM := Lib.hid hm
    have HB := Lib.hid hb
    clear hs hk hm hb
    have fin : ∀ (K2 : List (BitVec 32)) (w2 : World), s = w0 → SumsTo l x n K2 s.toNat → K2.length = 2 ^ R := fun K2 w2 h0 h2 => by rw [HR.out]; exact h2.done (by omega) HX.out h0
    by_cases hin : sumW l s n ∈ K
    · rw [if_pos hin] at hlook
      simp only [Bool.false_eq_true, if_false, Option.getD_some] at hlook
      have HK2 := Lib.hid (HK.out.old HSB.out hin)
      clear hin
      by_cases h0 : s = w0
      · have hd : (s == w0) = true := by simp [h0]
        have HF : Hid ((K.length : Int) = ((2 ^ R : Nat) : Int)) := Lib.hid (by have := fin _ wr h0 HK2.out; omega)
        clear h0 fin
        go_wp2_with fail
        refine HS1.out.mono ?_
        clear HS1
        rintro e w' ⟨rfl, rfl⟩
        have HBW := Lib.hid HB.out
        go_wp2_with fail
        go_loopw [6, 9] (fun m i wx => ∃ a b : Nat, a + b = R ∧ m = .int .i64 ((2 ^ a : Nat) : Int) ∧ i = .int .i64 b ∧ Below w.heap.size w wx) (fun m _ _ => (intOf m).toNat)
        case atStart => exact ⟨R, 0, rfl, by rw [HF.out], rfl, HBW.out⟩
        case round =>
          clear HBW HM HB HK HF
          rename World => wx
          obtain ⟨a, b, hab, rfl, rfl, hbx⟩ := hrel
          have HBX := Lib.hid hbx
          clear hbx
          cases a with
          | zero =>
            have h1 : decide ((1 : Int) < ((2 ^ 0 : Nat) : Int)) = false := by decide
            go_wp2_with fail
            go_ret
            exact ⟨ret_i64 (by omega), HBX.out⟩
          | succ a =>
            have hq := half_pow a
            have hp := Nat.two_pow_pos a
            have hp2 : 2 ^ (a + 1) = 2 * 2 ^ a := by rw [Nat.pow_succ]; omega
            have hle : 2 ^ (a + 1) ≤ 2 ^ 10 := Nat.pow_le_pow_right (by omega) (by omega)
            have hmv : (Value.int .i64 ((2 ^ a : Nat) : Int)) = .int .i64 ((2 ^ a : Nat) : Int) := rfl
            obtain ⟨q, hqe⟩ : ∃ q, q = 2 ^ a := ⟨_, rfl⟩
            obtain ⟨p, hpe⟩ : ∃ p, p = 2 ^ (a + 1) := ⟨_, rfl⟩
            have HQE := Lib.hid hqe
            rw [← hpe] at hq hp2 hle ⊢
            rw [← hqe] at hq hp hp2
            clear hqe hpe hmv
            go_wp2_with fail
            go_roundw
            case rel => exact ⟨a, b + 1, by omega, by rw [HQE.out], rfl, HBX.out⟩
            case measure =>
              show ((q : Int)).toNat < ((p : Int)).toNat
              omega
      · have hd : (s == w0) = false := by simp [h0]
        have H0 := Lib.hid h0
        clear h0 fin
        go_wp2_with fail
        refine HS1.out.mono ?_
        clear HS1
        rintro e w' ⟨rfl, rfl⟩
        go_wp2_with fail
        go_roundw
        case rel => exact ⟨wAnd (wSub s w1) x, K, rfl, rfl, lotNext_sb s x, HK2.out.next HSB.out H0.out, HM.out, HB.out⟩
        case measure => exact lotNext_lt H0.out
    · rw [if_neg hin] at hlook
      simp only [Bool.false_eq_true, if_false, Option.getD_none] at hlook
      obtain ⟨W2, hput, hM2, hgrow, hsz⟩ := run_put (P := Try.prog) (keyL_word Try.underlying26) Try.underlying173 HM.out (sumW l s n) (.bool true)
      rw [putK_seen hin] at hM2
      have HK2 := Lib.hid (HK.out.new HSB.out hin)
      have HM2 := Lib.hid hM2
      have HBW := Lib.hid (HB.out.grown hgrow HB.out.size (fun g hg => by cases hg; rw [HSE.out]; exact Nat.le_refl _))
      have hkl : (K ++ [sumW l s n]).length = K.length + 1 := by simp
      have hk1024 : K.length ≤ 1024 := by
        have h1 : ∀ y ∈ K, y ∈ spanL ((bitsL x).map (lw l)).reverse := fun y hy => (mem_span _ _).2 ((Sp_sums l (by omega) HX.out y).2 (by obtain ⟨t, h1, _, h3⟩ := (HK.out.2 y).1 hy; exact ⟨t, h1, h3⟩))
        have h2 := HK.out.1.length_le_of_subset h1
        rw [span_len, ← HR.out] at h2
        exact Nat.le_trans h2 (Nat.le_trans (Nat.pow_le_pow_right (by omega) hrk) (by omega))
      clear hin hM2 hgrow hsz
      by_cases h0 : s = w0
      · have hd : (s == w0) = true := by simp [h0]
        have HF : Hid ((K.length : Int) + 1 = ((2 ^ R : Nat) : Int)) := Lib.hid (by have := fin _ W2 h0 HK2.out; rw [hkl] at this; omega)
        clear h0 fin
        go_wp2_with fail
        refine HS1.out.mono ?_
        clear HS1
        rintro e w' ⟨rfl, rfl⟩
        go_wp2_with fail
        go_loopw [6, 9] (fun m i wx => ∃ a b : Nat, a + b = R ∧ m = .int .i64 ((2 ^ a : Nat) : Int) ∧ i = .int .i64 b ∧ Below w.heap.size w wx) (fun m _ _ => (intOf m).toNat)
        case atStart => exact ⟨R, 0, rfl, by rw [HF.out], rfl, HBW.out⟩
        case round =>
          clear HBW HM HB HK HF
          rename World => wx
          obtain ⟨a, b, hab, rfl, rfl, hbx⟩ := hrel
          have HBX := Lib.hid hbx
          clear hbx
          cases a with
          | zero =>
            have h1 : decide ((1 : Int) < ((2 ^ 0 : Nat) : Int)) = false := by decide
            go_wp2_with fail
            go_ret
            exact ⟨ret_i64 (by omega), HBX.out⟩
          | succ a =>
            have hq := half_pow a
            have hp := Nat.two_pow_pos a
            have hp2 : 2 ^ (a + 1) = 2 * 2 ^ a := by rw [Nat.pow_succ]; omega
            have hle : 2 ^ (a + 1) ≤ 2 ^ 10 := Nat.pow_le_pow_right (by omega) (by omega)
            have hmv : (Value.int .i64 ((2 ^ a : Nat) : Int)) = .int .i64 ((2 ^ a : Nat) : Int) := rfl
            obtain ⟨q, hqe⟩ : ∃ q, q = 2 ^ a := ⟨_, rfl⟩
            obtain ⟨p, hpe⟩ : ∃ p, p = 2 ^ (a + 1) := ⟨_, rfl⟩
            have HQE := Lib.hid hqe
            rw [← hpe] at hq hp2 hle ⊢
            rw [← hqe] at hq hp hp2
            clear hqe hpe hmv
            go_wp2_with fail
            go_roundw
            case rel => exact ⟨a, b + 1, by omega, by rw [HQE.out], rfl, HBX.out⟩
            case measure =>
              show ((q : Int)).toNat < ((p : Int)).toNat
              omega
      · have hd : (s == w0) = false := by simp [h0]
        have H0 := Lib.hid h0
        have HKL := Lib.hid hkl
        clear h0 fin
        go_wp2_with fail
        refine HS1.out.mono ?_
        clear HS1
        rintro e w' ⟨rfl, rfl⟩
        go_wp2_with fail
        go_roundw
        case rel => exact ⟨wAnd (wSub s w1) x, K ++ [sumW l s n], by rw [HKL.out]; rfl, rfl, lotNext_sb s x, HK2.out.next HSB.out H0.out, HM2.out, HBW.out⟩
        case measure => exact lotNext_lt H0.out
end Go.Proofs.Ytdinknpagklkjaa

/- The reference's best free set is what is taken, in plain Lean. Conditions: none. -/
namespace Go.Proofs.Ytdinknpagklkjaa
open Go.RowKit

theorem earl_at {a b : BitVec 32} {i : Nat} (hi : i < 32) (h : ∀ j, j < i → a.getLsbD j = b.getLsbD j) (hd : a.getLsbD i ≠ b.getLsbD i) : earlF a b = a.getLsbD i := by
  have e : (List.range 32).find? (fun j => a.getLsbD j != b.getLsbD j) = some i := by
    have hr : List.range 32 = List.range i ++ (List.range (32 - i)).map (i + ·) := by rw [← List.range_add]; congr 1; omega
    rw [hr, List.find?_append]
    have h1 : (List.range i).find? (fun j => a.getLsbD j != b.getLsbD j) = none := List.find?_eq_none.2 fun j hj => by
      rw [h j (List.mem_range.1 hj)]
      simp
    rw [h1, Option.none_or]
    obtain ⟨q, hq⟩ : ∃ q, 32 - i = q + 1 := ⟨32 - i - 1, by omega⟩
    rw [hq, List.range_succ_eq_map, List.map_cons, List.find?_cons_of_pos (by simpa using hd)]
    rfl
  unfold earlF
  rw [e]
theorem earl_none {a b : BitVec 32} (h : ∀ j, j < 32 → a.getLsbD j = b.getLsbD j) : earlF a b = false := by
  have e : (List.range 32).find? (fun j => a.getLsbD j != b.getLsbD j) = none := List.find?_eq_none.2 fun j hj => by
    rw [h j (List.mem_range.1 hj)]
    simp
  unfold earlF
  rw [e]
theorem first_diff (a b : BitVec 32) : ∀ n, (∀ j, j < n → a.getLsbD j = b.getLsbD j) ∨ ∃ i, i < n ∧ (∀ j, j < i → a.getLsbD j = b.getLsbD j) ∧ a.getLsbD i ≠ b.getLsbD i
  | 0 => .inl fun j hj => by omega
  | n + 1 => by
    rcases first_diff a b n with h | ⟨i, h1, h2, h3⟩
    · by_cases hd : a.getLsbD n = b.getLsbD n
      · exact .inl fun j hj => by
          by_cases hjn : j = n
          · rw [hjn]; exact hd
          · exact h j (by omega)
      · exact .inr ⟨n, by omega, h, hd⟩
    · exact .inr ⟨i, by omega, h2, h3⟩
theorem earl_asymm {a b : BitVec 32} (h : earlF a b = true) : earlF b a = false := by
  rcases first_diff a b 32 with h1 | ⟨i, h1, h2, h3⟩
  · rw [earl_none h1] at h; cases h
  · rw [earl_at h1 h2 h3] at h
    rw [earl_at h1 (fun j hj => (h2 j hj).symm) (fun e => h3 e.symm)]
    cases hb : b.getLsbD i with
    | false => rfl
    | true => rw [h, hb] at h3; exact absurd rfl h3
theorem rk_same {a b : List (BitVec 32)} (h : ∀ x, x ∈ a ↔ x ∈ b) : rk a = rk b := Nat.le_antisymm (rk_mono fun x hx => Sp_mem ((h x).1 hx)) (rk_mono fun x hx => Sp_mem ((h x).2 hx))
theorem gd_span (f : Nat → BitVec 32) : ∀ (P : List Nat), (∀ i ∈ P, i < 32) → ∀ i ∈ P, Sp ((bitsL (gdR f P)).map f) (f i)
  | [], _, i, h => by cases h
  | a :: P, h, i, hi => by
    have ih := gd_span f P fun x hx => h x (by simp [hx])
    by_cases hs : Sp (P.map f) (f a)
    · rw [gd_skip hs]
      rcases List.mem_cons.1 hi with rfl | hi
      · exact Sp_sub (fun x hx => by obtain ⟨j, hj, rfl⟩ := List.mem_map.1 hx; exact ih j hj) _ hs
      · exact ih i hi
    · rw [gd_add hs]
      have ha := h a (by simp)
      rcases List.mem_cons.1 hi with rfl | hi
      · exact Sp_mem (List.mem_map.2 ⟨i, mem_bitsL.2 (by rw [or_bit _ ha]; simp), rfl⟩)
      · refine Sp_sub (fun x hx => ?_) _ (ih i hi)
        obtain ⟨j, hj, rfl⟩ := List.mem_map.1 hx
        exact Sp_mem (List.mem_map.2 ⟨j, mem_bitsL.2 (by rw [or_bit _ ha, mem_bitsL.1 hj]; rfl), rfl⟩)
noncomputable def candP (l : List (BitVec 32)) (R : Nat) (x : BitVec 32) : Bool := decide (pop x = R) && decide (rk ((bitsL x).map (lw l)).reverse = pop x)
def betP (wt : Nat → Int) (n : Nat) (x b : BitVec 32) : Bool := decide (worthTo wt b n < worthTo wt x n) || (decide (worthTo wt x n = worthTo wt b n) && earlF x b)
noncomputable def bst (l : List (BitVec 32)) (R : Nat) (wt : Nat → Int) (n : Nat) : Nat → BitVec 32 × Bool
  | 0 => (w0, false)
  | k + 1 => if candP l R (nw k) = true ∧ ((bst l R wt n k).2 = false ∨ betP wt n (nw k) (bst l R wt n k).1 = true) then (nw k, true) else bst l R wt n k
theorem bst_is {l : List (BitVec 32)} {R : Nat} {wt : Nat → Int} {n : Nat} {G : BitVec 32} (h10 : n ≤ 31) (hG : G.toNat < 2 ^ n) (hc : candP l R G = true) (hb : ∀ B, B.toNat < 2 ^ n → candP l R B = true → B ≠ G → betP wt n G B = true ∧ betP wt n B G = false) :
    ∀ k, k ≤ 2 ^ n → ((bst l R wt n k).2 = true → candP l R (bst l R wt n k).1 = true ∧ (bst l R wt n k).1.toNat < k) ∧ (G.toNat < k → bst l R wt n k = (G, true))
  | 0, _ => ⟨(fun h => by cases h), (fun h => by omega)⟩
  | k + 1, hk => by
    obtain ⟨i1, i2⟩ := bst_is h10 hG hc hb k (by omega)
    have hp : (2 : Nat) ^ n ≤ 2 ^ 31 := Nat.pow_le_pow_right (by omega) h10
    have hnk : (nw k).toNat = k := by
      unfold nw
      rw [BitVec.toNat_ofNat]
      exact Nat.mod_eq_of_lt (by omega)
    rw [bst]
    by_cases hkg : k = G.toNat
    · have hG2 : nw k = G := by rw [hkg, nw_toNat]
      have hgo : candP l R (nw k) = true ∧ ((bst l R wt n k).2 = false ∨ betP wt n (nw k) (bst l R wt n k).1 = true) := by
        rw [hG2]
        refine ⟨hc, ?_⟩
        cases hf : (bst l R wt n k).2 with
        | false => exact .inl rfl
        | true =>
          obtain ⟨j1, j2⟩ := i1 hf
          refine .inr (hb _ (by omega) j1 (fun e => ?_)).1
          rw [e] at j2
          omega
      rw [if_pos hgo, hG2]
      exact ⟨fun _ => ⟨hc, by show G.toNat < k + 1; omega⟩, fun _ => rfl⟩
    · by_cases hlt : G.toNat < k
      · have e := i2 hlt
        rw [e]
        have hno : ¬ (candP l R (nw k) = true ∧ ((G, true).2 = false ∨ betP wt n (nw k) (G, true).1 = true)) := fun h => by
          rcases h.2 with h2 | h2
          · cases h2
          · have := (hb (nw k) (by omega) h.1 (fun e => by rw [e] at hnk; omega)).2
            simp only at h2
            rw [this] at h2
            cases h2
        rw [if_neg hno]
        exact ⟨fun _ => ⟨hc, by show G.toNat < k + 1; omega⟩, fun _ => rfl⟩
      · refine ⟨fun h => ?_, fun h => by omega⟩
        split at h
        · rename_i hh
          rw [if_pos hh]
          exact ⟨hh.1, by show (nw k).toNat < k + 1; omega⟩
        · rename_i hh
          rw [if_neg hh]
          have := i1 h
          exact ⟨this.1, by omega⟩
theorem small_bits {x : BitVec 32} {n : Nat} (h : x.toNat < 2 ^ n) {j : Nat} (hj : x.getLsbD j = true) : j < n := bits_below h j (mem_bitsL.2 hj)
theorem bits_small {x : BitVec 32} {n : Nat} (hn : n ≤ 32) (h : ∀ j, x.getLsbD j = true → j < n) : x.toNat < 2 ^ n := by
  refine Nat.lt_pow_two_of_testBit _ fun i hi => ?_
  rw [← Bool.not_eq_true]
  exact fun e => by have := h i e; omega
theorem best_taken {l : List (BitVec 32)} {n : Nat} {wt : Nat → Int} {L : List Nat} (hn10 : n ≤ 31) (hn : L.Nodup) (hm : ∀ x, x ∈ L ↔ x < n) (hs : L.Pairwise (before wt)) {R : Nat} {F : BitVec 32} (hF : ∀ j, F.getLsbD j = true ↔ j < n) (hR : R = rk ((bitsL F).map (lw l)).reverse) :
    bst l R wt n (2 ^ n) = (gdR (lw l) L.reverse, true) := by
  have hl32 : ∀ i ∈ L, i < 32 := fun i hi => by have := (hm i).1 hi; omega
  have hlr : ∀ i ∈ L.reverse, i < 32 := fun i hi => hl32 i (List.mem_reverse.1 hi)
  have hRL : R = rk (L.reverse.map (lw l)) := by
    rw [hR]
    refine rk_same fun x => ?_
    rw [List.mem_reverse, List.mem_map, List.mem_map]
    constructor
    · rintro ⟨i, hi, rfl⟩
      exact ⟨i, List.mem_reverse.2 ((hm i).2 ((hF i).1 (mem_bitsL.1 hi))), rfl⟩
    · rintro ⟨i, hi, rfl⟩
      exact ⟨i, mem_bitsL.2 ((hF i).2 ((hm i).1 (List.mem_reverse.1 hi))), rfl⟩
  have hGn : ∀ j, (gdR (lw l) L.reverse).getLsbD j = true → j < n := fun j hj => (hm j).1 (List.mem_reverse.1 (gd_in (lw l) _ hlr j hj))
  have hGs := bits_small (by omega) hGn
  have hpop : (bitsL (gdR (lw l) L.reverse)).length = R := by
    rw [← cnt_all hn hm hGn, hRL, ← cntB_rev]
    exact gd_cnt (lw l) _ hlr (List.pairwise_reverse.2 (hn.imp fun h => h.symm))
  have hrev : ∀ x : BitVec 32, rk ((bitsL x).map (lw l)).reverse = rk ((bitsL x).map (lw l)) := fun x => rk_same fun y => List.mem_reverse
  have hc : candP l R (gdR (lw l) L.reverse) = true := by
    unfold candP
    rw [pop_bitsL, hrev, Bool.and_eq_true, decide_eq_true_iff, decide_eq_true_iff]
    refine ⟨hpop, Nat.le_antisymm ?_ ?_⟩
    · have := rk_le ((bitsL (gdR (lw l) L.reverse)).map (lw l))
      rwa [List.length_map] at this
    · rw [hpop, hRL]
      refine rk_mono fun x hx => ?_
      obtain ⟨i, hi, rfl⟩ := List.mem_map.1 hx
      exact gd_span (lw l) _ hlr i hi
  refine ((bst_is hn10 hGs hc (fun B hB hcB hne => ?_) (2 ^ n) (Nat.le_refl _)).2 hGs)
  unfold candP at hcB
  rw [pop_bitsL, hrev, Bool.and_eq_true, decide_eq_true_iff, decide_eq_true_iff] at hcB
  obtain ⟨h1, h2⟩ := gd_best (lw l) wt (by omega) hn hm hs (fun j hj => small_bits hB hj) hcB.2 (by rw [hcB.1, hRL])
  unfold betP
  by_cases he : worthTo wt B n = worthTo wt (gdR (lw l) L.reverse) n
  · have h3 := h2 he hne
    rw [he, h3, earl_asymm h3]
    simp
  · have : worthTo wt B n < worthTo wt (gdR (lw l) L.reverse) n := by omega
    rw [decide_eq_true this, decide_eq_false (show ¬ worthTo wt (gdR (lw l) L.reverse) n < worthTo wt B n by omega), decide_eq_false (show ¬ worthTo wt B n = worthTo wt (gdR (lw l) L.reverse) n from he)]
    exact ⟨rfl, rfl⟩
end Go.Proofs.Ytdinknpagklkjaa

/- The free set that is worth the most: the reference's walk. Conditions: the words and the worths read as lists. -/
namespace Go.Proofs.Ytdinknpagklkjaa
open Go.RowKit
attribute [local go_sem ↓] w_and w_or w_xor w_andNot w_and1 w_and255 w_xor1 w_or0 w_shl w_shl1 w_shr w_sub w_add w_sub1 w_add1
attribute [local go_sem] w_eq0 w_ne0 w_eq1 w_eq w_ne

abbrev zAt (z : List Int) (i : Nat) : Int := z.getD i 0
theorem worth_bound {z : List Int} (h : ∀ y ∈ z, -1048576 ≤ y ∧ y ≤ 1048576) (s : BitVec 32) : ∀ k : Nat, -(1048576 * (k : Int)) ≤ worthTo (zAt z) s k ∧ worthTo (zAt z) s k ≤ 1048576 * (k : Int)
  | 0 => by simp [worthTo]
  | k + 1 => by
    obtain ⟨h1, h2⟩ := worth_bound h s k
    have h3 : -1048576 ≤ zAt z k ∧ zAt z k ≤ 1048576 := by
      show -1048576 ≤ z.getD k 0 ∧ z.getD k 0 ≤ 1048576
      rcases Nat.lt_or_ge k z.length with hk | hk
      · rw [getD_at z k hk]
        exact h _ (List.getElem_mem hk)
      · rw [List.getD_eq_getElem?_getD, List.getElem?_eq_none hk]
        simp
    rw [worthTo]
    split <;> omega
set_option maxRecDepth 100000 in
theorem ref_LotWorth (B : Option Addr) (n d : Nat) (z : List Int) (s : BitVec 32) (w : World) (hz : z.length = n) (hn : n ≤ 10) (hb : ∀ y ∈ z, -1048576 ≤ y ∧ y ≤ 1048576) (hq : Els w w.heap.size 1 icell B z) :
    Calls Try.prog 81 #[.slice B n d, .int .u32 (wN s)] w fun e w' => e = .returned (.int .i64 (worthTo (zAt z) s n)) ∧ w = w' := by
  have HZ := Lib.hid hz
  have HBD := Lib.hid (fun k : Nat => worth_bound hb s k)
  have HQ := Lib.hid hq
  clear hz hb hq
  go_enter Try.func81, Try.ntmps81
  go_wp2_with fail
  go_loop [10, 5] (fun s10 s5 => ∃ k : Nat, k ≤ n ∧ s10 = .int .i64 k ∧ s5 = .int .i64 (worthTo (zAt z) s k)) (fun s10 _ => n - (intOf s10).toNat)
  case atStart => exact ⟨0, Nat.zero_le _, rfl, rfl⟩
  case round =>
    obtain ⟨k, hk, rfl, rfl⟩ := hrel
    by_cases hkn : k < n
    · have hkz : k < z.length := by rw [HZ.out]; exact hkn
      obtain ⟨b, o, hB, _, t0⟩ := HQ.out.at1 (f := fun x : Int => .int .i64 x) hkz
      subst hB
      rw [← getD_at z k hkz 0] at t0
      have hs : worthTo (zAt z) s (k + 1) = if s.getLsbD k = true then worthTo (zAt z) s k + z.getD k 0 else worthTo (zAt z) s k := rfl
      have hb1 := HBD.out (k + 1)
      have HBT := Lib.hid (Bit_any s (k : Int) w)
      rw [bitB_nat] at HBT
      obtain ⟨y, hy⟩ : ∃ y, y = z.getD k 0 := ⟨_, rfl⟩
      obtain ⟨x, hx⟩ : ∃ x, x = worthTo (zAt z) s k := ⟨_, rfl⟩
      rw [← hy] at t0 hs
      rw [← hx] at hs ⊢
      cases hbit : s.getLsbD k with
      | true =>
        rw [hbit, if_pos rfl] at hs
        rw [hbit] at HBT
        have hw : IntKind.i64.wrap (x + y) = x + y := IntWalk.i64_in _ (by rw [hs] at hb1; omega)
        have HSS := Lib.hid hs
        clear hs hy hx hbit hb1
        go_wp2_with fail
        refine HBT.out.mono ?_
        rintro e w' ⟨rfl, rfl⟩
        go_wp2_with fail
        go_round
        case rel => exact ⟨k + 1, by omega, by go_num, by rw [HSS.out]⟩
        case measure => simp [intOf]; omega
      | false =>
        rw [hbit, if_neg (by simp)] at hs
        rw [hbit] at HBT
        have HSS := Lib.hid hs
        clear hs hy hx hbit hb1
        go_wp2_with fail
        refine HBT.out.mono ?_
        rintro e w' ⟨rfl, rfl⟩
        go_wp2_with fail
        go_round
        case rel => exact ⟨k + 1, by omega, by go_num, by rw [HSS.out]⟩
        case measure => simp [intOf]; omega
    · obtain rfl : k = n := by omega
      obtain ⟨x, hx⟩ : ∃ x, x = worthTo (zAt z) s k := ⟨_, rfl⟩
      rw [← hx]
      have HX := Lib.hid hx
      clear hx
      go_wp2_with fail
      go_ret
      exact ⟨ret_i64 HX.out, rfl⟩
set_option maxRecDepth 100000 in
theorem ref_earlier (a b : BitVec 32) (w : World) :
    Calls Try.prog 82 #[.int .u32 (wN a), .int .u32 (wN b)] w fun e w' => e = .returned (.bool (earlF a b)) ∧ w = w' := by
  go_enter Try.func82, Try.ntmps82
  go_wp2_with fail
  go_loop [5] (fun s5 => ∃ k : Nat, k ≤ 32 ∧ s5 = .int .i64 k ∧ ∀ j, j < k → a.getLsbD j = b.getLsbD j) (fun s5 => 32 - (intOf s5).toNat)
  case atStart => exact ⟨0, Nat.zero_le _, rfl, fun j hj => by omega⟩
  case round =>
    obtain ⟨k, hk, rfl, hlow⟩ := hrel
    by_cases hkn : k < 32
    · have HA := Lib.hid (Bit_any a (k : Int) w)
      have HB := Lib.hid (Bit_any b (k : Int) w)
      rw [bitB_nat] at HA HB
      by_cases hd : a.getLsbD k = b.getLsbD k
      · have HLOW := Lib.hid hlow
        have HD := Lib.hid hd
        rw [← hd] at HB
        obtain ⟨v, hv⟩ : ∃ v, v = a.getLsbD k := ⟨_, rfl⟩
        rw [← hv] at HA HB
        have hvv : (v != v) = false := by simp
        clear hlow hd hv
        go_wp2_with fail
        refine HA.out.mono ?_
        rintro e w' ⟨rfl, rfl⟩
        go_wp2_with fail
        refine HB.out.mono ?_
        rintro e w' ⟨rfl, rfl⟩
        go_wp2_with fail
        go_round
        case rel => exact ⟨k + 1, by omega, by go_num, fun j hj => by
          by_cases hjk : j = k
          · rw [hjk]; exact HD.out
          · exact HLOW.out j (by omega)⟩
        case measure => simp [intOf]; omega
      · have HE := Lib.hid (earl_at hkn hlow hd)
        have hne : (a.getLsbD k != b.getLsbD k) = true := by simpa using hd
        obtain ⟨v, hv⟩ : ∃ v, v = a.getLsbD k := ⟨_, rfl⟩
        obtain ⟨u, hu⟩ : ∃ u, u = b.getLsbD k := ⟨_, rfl⟩
        rw [← hv] at HA HE hne
        rw [← hu] at HB hne
        obtain rfl : u = !v := by cases v <;> cases u <;> simp_all
        clear hlow hd hv hu hne
        cases v
        all_goals
          simp only [Bool.not_true, Bool.not_false] at HB
          go_wp2_with fail
          refine HA.out.mono ?_
          rintro e w' ⟨rfl, rfl⟩
          go_wp2_with fail
          refine HB.out.mono ?_
          rintro e w' ⟨rfl, rfl⟩
          go_wp2_with fail
          refine HA.out.mono ?_
          rintro e w' ⟨rfl, rfl⟩
          go_wp2_with fail
          go_ret
          exact ⟨ret_bool HE.out.symm, rfl⟩
    · obtain rfl : k = 32 := by omega
      have HE := Lib.hid (earl_none hlow)
      clear hlow
      go_wp2_with fail
      go_ret
      exact ⟨ret_bool HE.out.symm, rfl⟩
theorem full_bits {n : Nat} (hn : n ≤ 31) (j : Nat) : (wSub (wShl w1 n) w1).getLsbD j = true ↔ j < n := by
  have h1 : (wSub (wShl w1 n) w1).toNat = 2 ^ n - 1 := by
    have h2 : (wShl w1 n).toNat = 2 ^ n := wN_shl1 (by omega)
    have h3 : 1 ≤ 2 ^ n := Nat.one_le_two_pow
    unfold wSub
    rw [BitVec.toNat_sub_of_le (by rw [BitVec.le_def, h2]; exact h3), h2]
    rfl
  rw [BitVec.getLsbD, h1, Nat.testBit_two_pow_sub_one, decide_eq_true_iff]
theorem full_small {n : Nat} (hn : n ≤ 31) : (wSub (wShl w1 n) w1).toNat < 2 ^ n := bits_small (by omega) fun j hj => (full_bits hn j).1 hj
end Go.Proofs.Ytdinknpagklkjaa
