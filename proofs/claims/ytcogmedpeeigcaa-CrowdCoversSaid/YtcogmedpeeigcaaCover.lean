/- The smallest set that has a node of each edge: both searches compute the one function gb; the statement's walk. Conditions: the edges read as a list. -/
import Derived.Test.YtcogmedpeeigcaaNear
import Derived.Test.YtcogmedpeeigcaaGraphB
import Derived.Test.YtcogmedpeeigcaaCount
import Derived.Test.YtcogmedpeeigcaaOpen
namespace Go.Proofs.Ytcogmedpeeigcaa
open Go.RowKit
attribute [local go_sem ↓] w_and w_or w_xor w_andNot w_and1 w_and255 w_xor1 w_or0 w_shl w_shl1 w_shr w_sub w_add w_sub1 w_add1
attribute [local go_sem] w_eq0 w_ne0 w_eq1 w_eq w_ne

def loose (x : BitVec 32) (e : Ed) : Bool := !(bitB x e.a && bitB x e.b)
def looseB (l : List Ed) (x : BitVec 32) : Bool := l.all (loose x)
theorem all_take_succ {α : Type} (p : α → Bool) (l : List α) (k : Nat) (hk : k < l.length) : (l.take (k + 1)).all p = ((l.take k).all p && p l[k]) := by
  rw [List.take_succ_eq_append_getElem hk, List.all_append]
  simp
theorem all_of_get {α : Type} {p : α → Bool} {l : List α} {k : Nat} (hk : k < l.length) (h : p l[k] = false) : l.all p = false := by
  rw [List.all_eq_false]
  exact ⟨_, List.getElem_mem hk, by rw [h]; simp⟩
set_option maxRecDepth 100000 in
set_option maxHeartbeats 1000000 in
theorem ref_Loose (N : Int) (x : BitVec 32) (A : Option Addr) (n c : Nat) (l : List Ed) (w : World) (hl : l.length = n) (hn : n ≤ 45) (hr : Els w w.heap.size 3 Ed.cells A l) :
    Calls Try.prog 63 #[.agg #[.int .i64 N, .slice A n c], .int .u32 (wN x)] w fun e w' => e = .returned (.bool (looseB l x)) ∧ Below w.heap.size w w' := by
  have HL := Lib.hid hl
  clear hl
  have d0 := (Blk.new w 34 #[.int .i64 N, .slice A n c]).cell 1
  go_enter Try.func63, Try.ntmps63
  go_wp2_with fail
  go_loopw [10] (fun i' wr => ∃ k : Nat, k ≤ n ∧ i' = .int .i64 k ∧ Below w.heap.size w wr ∧ (l.take k).all (loose x) = true) (fun i' _ => n - (intOf i').toNat)
  case atStart => exact ⟨0, by omega, rfl, (Below.refl _ _).alloc (Nat.le_refl _) _, rfl⟩
  case round =>
    clear d0
    rename World => wr
    obtain ⟨k, hk, rfl, hb, hall⟩ := hrel
    have hsz := hb.size
    have HB := Lib.hid hb
    have HA := Lib.hid hall
    clear hall
    by_cases hlt : k < n
    · have hkl : k < l.length := by rw [HL.out]; exact hlt
      obtain ⟨b0, off, rfl, hbb, g0, g1, g2⟩ := (hr.below hb).at3 hkl
      have HS := Lib.hid (all_take_succ (loose x) l k hkl)
      have HF := Lib.hid (fun h => all_of_get (p := loose x) (l := l) hkl h)
      obtain ⟨e, he⟩ : ∃ e, e = l[k] := ⟨_, rfl⟩
      have HE := Lib.hid he
      rw [← he] at g0 g1 g2
      clear hb he
      have hE0 := Blk.new wr 107 #[.int .i64 e.a, .int .i64 e.b, .int .i64 e.w]
      have e0 := hE0.cell 0
      have e1 := hE0.cell 1
      clear hE0
      have HT : Hid (loose x e = !(bitB x e.a && bitB x e.b)) := rfl
      rcases r1 : bitB x e.a with _ | _
      · have R1 := Lib.hid r1
        clear r1
        go_wp2_with fail
        refine (Bit_any x e.a _).mono ?_
        rintro _ w' ⟨rfl, rfl⟩
        rw [R1.out]
        go_wp2_with fail
        go_roundw
        case rel => exact ⟨k + 1, by omega, by go_num, HB.out.alloc hsz _, by rw [HS.out, HA.out, ← HE.out, HT.out, R1.out]; rfl⟩
        case measure => simp [intOf]; omega
      · rcases r2 : bitB x e.b with _ | _
        · have R1 := Lib.hid r1
          have R2 := Lib.hid r2
          clear r1 r2
          go_wp2_with fail
          refine (Bit_any x e.a _).mono ?_
          rintro _ w' ⟨rfl, rfl⟩
          rw [R1.out]
          go_wp2_with fail
          refine (Bit_any x e.b _).mono ?_
          rintro _ w' ⟨rfl, rfl⟩
          rw [R2.out]
          go_wp2_with fail
          go_roundw
          case rel => exact ⟨k + 1, by omega, by go_num, HB.out.alloc hsz _, by rw [HS.out, HA.out, ← HE.out, HT.out, R1.out, R2.out]; rfl⟩
          case measure => simp [intOf]; omega
        · have R1 := Lib.hid r1
          have R2 := Lib.hid r2
          clear r1 r2
          go_wp2_with fail
          refine (Bit_any x e.a _).mono ?_
          rintro _ w' ⟨rfl, rfl⟩
          rw [R1.out]
          go_wp2_with fail
          refine (Bit_any x e.b _).mono ?_
          rintro _ w' ⟨rfl, rfl⟩
          rw [R2.out]
          go_wp2_with fail
          go_ret
          exact ⟨ret_bool (HF.out (by rw [← HE.out, HT.out, R1.out, R2.out]; rfl)).symm, HB.out.alloc hsz _⟩
    · obtain rfl : k = n := by omega
      have hall : l.take k = l := List.take_of_length_le (by rw [HL.out]; omega)
      have hA := HA.out
      rw [hall] at hA
      have HA2 := Lib.hid hA
      clear hall hA
      go_wp2_with fail
      go_ret
      exact ⟨ret_bool HA2.out.symm, HB.out⟩

def covAt (t : List (BitVec 32)) (x : BitVec 32) (i : Nat) : Bool := bitB x i || (wBut (lw t i) x == w0)
def coversB (t : List (BitVec 32)) (x : BitVec 32) : Bool := (List.range t.length).all (covAt t x)
set_option maxRecDepth 100000 in
theorem crowd_covers (t : List (BitVec 32)) (x : BitVec 32) (A : Option Addr) (n c : Nat) (B : Nat) (w : World) (hl : t.length = n) (hn : n ≤ 32) (hr : Els w B 1 wcell A t) :
    Calls Try.prog 61 #[.slice A n c, .int .u32 (wN x)] w fun e w' => e = .returned (.bool (coversB t x)) ∧ w = w' := by
  have HL := Lib.hid hl
  have HC : Hid (coversB t x = (List.range n).all (covAt t x)) := by subst hl; rfl
  clear hl
  go_enter Try.func61, Try.ntmps61
  go_wp2_with fail
  go_loop [9] (fun i => ∃ k : Nat, k ≤ n ∧ i = .int .i64 k ∧ (List.range k).all (covAt t x) = true) (fun i => n - (intOf i).toNat)
  case atStart => exact ⟨0, by omega, rfl, rfl⟩
  case round =>
    obtain ⟨k, hk, rfl, hall⟩ := hrel
    have HA := Lib.hid hall
    clear hall
    by_cases hlt : k < n
    · have hkl : k < t.length := by rw [HL.out]; exact hlt
      obtain ⟨b, off, rfl, hbb, g0⟩ := hr.at1 (f := fun x => .int .u32 (wN x)) hkl
      rw [← lw_at t k hkl] at g0
      have HB : Hid (covAt t x k = (bitB x k || (wBut (lw t k) x == w0))) := rfl
      have HBIT := Lib.hid (shr_and1_eq0 x k)
      generalize lw t k = y at g0 HB
      rcases h1 : (wAnd (wShr x k) w1 == w0) with _ | _
      · have H1 := Lib.hid h1
        go_wp2_with fail
        go_round
        case rel =>
          refine ⟨k + 1, by omega, by go_num, ?_⟩
          have hb := HBIT.out
          rw [H1.out] at hb
          have hb2 : bitB x k = true := by simpa using hb.symm
          rw [List.range_succ, List.all_append, HA.out]
          simp [HB.out, hb2]
        case measure => simp [intOf]; omega
      · rcases h2 : (wBut y x != w0) with _ | _
        · have H2 := Lib.hid h2
          go_wp2_with fail
          go_round
          case rel =>
            refine ⟨k + 1, by omega, by go_num, ?_⟩
            have hb : (wBut y x == w0) = true := by have := H2.out; simpa using this
            rw [List.range_succ, List.all_append, HA.out]
            simp only [List.all_cons, List.all_nil, HB.out, hb, Bool.or_true, Bool.and_true]
          case measure => simp [intOf]; omega
        · have H1 := Lib.hid h1
          have H2 := Lib.hid h2
          go_wp2_with fail
          go_ret
          refine ⟨ret_bool ?_, rfl⟩
          rw [HC.out]
          symm
          rw [List.all_eq_false]
          refine ⟨k, List.mem_range.2 hlt, ?_⟩
          have hb := HBIT.out
          rw [H1.out] at hb
          have hb2 : bitB x k = false := by simpa using hb.symm
          have hb3 : (wBut y x == w0) = false := by have := H2.out; simpa using this
          rw [HB.out, hb2, hb3]
          simp
    · obtain rfl : k = n := by omega
      go_wp2_with fail
      go_ret
      exact ⟨ret_bool (by rw [HC.out, HA.out]), rfl⟩

def cov (x : BitVec 32) (e : Ed) : Bool := bitB x e.a || bitB x e.b
def covL (l : List Ed) (x : BitVec 32) : Bool := l.all (cov x)
theorem bitB_but_mask {N : Nat} (hN : N < 32) (x : BitVec 32) {i : Int} (h0 : 0 ≤ i) (h1 : i < N) : bitB (wBut (maskW N) x) i = !bitB x i := by
  obtain ⟨m, rfl⟩ := Int.eq_ofNat_of_zero_le h0
  rw [bitB_nat, bitB_nat, b_but, b_mask hN]
  have : m < N := by omega
  simp [this]
theorem loose_cov {N : Nat} {l : List Ed} (h : GoodG N l) (x : BitVec 32) : looseB l (wBut (maskW N) x) = covL l x := by
  have hN := h.n10
  unfold looseB covL
  rw [Bool.eq_iff_iff, List.all_eq_true, List.all_eq_true]
  refine forall_congr' fun e => forall_congr' fun he => ?_
  have g := h.ed e he
  unfold loose cov
  rw [bitB_but_mask (by omega) x g.a0 g.a1, bitB_but_mask (by omega) x g.b0 g.b1]
  cases bitB x e.a <;> cases bitB x e.b <;> simp
theorem but_zero (y x : BitVec 32) : (wBut y x == w0) = true ↔ ∀ j, y.getLsbD j = true → x.getLsbD j = true := by
  rw [beq_iff_eq]
  constructor
  · intro h j hj
    have := congrArg (fun v => v.getLsbD j) h
    simp only [b_but, b_0, hj, Bool.true_and] at this
    simpa using this
  · intro h
    apply w_ext
    intro m _
    rw [b_but, b_0]
    cases hy : y.getLsbD m
    · simp
    · simp [h m hy]
theorem covers_cov {N : Nat} {l : List Ed} (h : GoodG N l) (x : BitVec 32) : coversB (nearL N l) x = covL l x := by
  unfold coversB covL
  rw [nearL_length, Bool.eq_iff_iff, List.all_eq_true, List.all_eq_true]
  constructor
  · intro hc e he
    have g := h.ed e he
    obtain ⟨a, ha⟩ := Int.eq_ofNat_of_zero_le g.a0
    obtain ⟨b, hb⟩ := Int.eq_ofNat_of_zero_le g.b0
    have haN : a < N := by have := g.a1; omega
    have h1 := hc a (List.mem_range.2 haN)
    unfold covAt at h1
    unfold cov
    rw [ha, hb, bitB_nat, bitB_nat]
    rw [bitB_nat] at h1
    cases hxa : x.getLsbD a with
    | true => rfl
    | false =>
      rw [hxa, Bool.false_or, but_zero] at h1
      rw [Bool.false_or]
      refine h1 b ?_
      rw [near_bit h haN b]
      unfold adj
      rw [List.any_eq_true]
      exact ⟨e, he, by unfold joins; simp [ha, hb]⟩
  · intro hc i hi
    have hiN := List.mem_range.1 hi
    unfold covAt
    rw [bitB_nat]
    cases hxi : x.getLsbD i with
    | true => rfl
    | false =>
      rw [Bool.false_or, but_zero]
      intro j hj
      rw [near_bit h hiN j] at hj
      obtain ⟨e, he, hjoin⟩ := List.any_eq_true.1 hj
      have h1 := hc e he
      unfold cov at h1
      unfold joins at hjoin
      rw [decide_eq_true_iff] at hjoin
      rcases hjoin with ⟨q1, q2⟩ | ⟨q1, q2⟩
      · rw [q1, q2, bitB_nat, bitB_nat, hxi, Bool.false_or] at h1
        exact h1
      · rw [q1, q2, bitB_nat, bitB_nat, hxi, Bool.or_false] at h1
        exact h1
/-- The smallest set so far. -/
def gb (N : Nat) (l : List Ed) : Nat → BitVec 32
  | 0 => maskW N
  | k + 1 => if pop (nw k) < pop (gb N l k) ∧ covL l (nw k) = true then nw k else gb N l k
theorem gb_take {N : Nat} {l : List Ed} {k : Nat} (h1 : pop (nw k) < pop (gb N l k)) (h2 : covL l (nw k) = true) : gb N l (k + 1) = nw k := by rw [gb, if_pos ⟨h1, h2⟩]
theorem gb_skip1 {N : Nat} {l : List Ed} {k : Nat} (h1 : ¬ pop (nw k) < pop (gb N l k)) : gb N l (k + 1) = gb N l k := by rw [gb, if_neg (fun h => h1 h.1)]
theorem gb_skip2 {N : Nat} {l : List Ed} {k : Nat} (h2 : covL l (nw k) = false) : gb N l (k + 1) = gb N l k := by rw [gb, if_neg (fun h => by rw [h2] at h; cases h.2)]

theorem mask_lim {N : Nat} (hN : N ≤ 10) : wN (wAdd (wSub (wShl w1 N) w1) w1) = (2 ^ N : Nat) := by
  have e : wAdd (wSub (wShl w1 N) w1) w1 = wShl w1 N := by
    unfold wAdd wSub
    exact BitVec.sub_add_cancel _ _
  rw [e, wN_pow (by omega)]
theorem pow_le_1024 {N : Nat} (hN : N ≤ 10) : 2 ^ N ≤ 1024 := by
  have := Nat.pow_le_pow_right (show 0 < 2 by omega) hN
  simpa using this

set_option maxRecDepth 100000 in
set_option maxHeartbeats 1000000 in
theorem crowd_Cover (N : Int) (A : Option Addr) (n c : Nat) (l : List Ed) (w : World) (hl : l.length = n) (hn : n ≤ maxLen) (hr : Els w w.heap.size 3 Ed.cells A l) :
    Calls Try.prog 19 #[.agg #[.int .i64 N, .slice A n c]] w fun e w' => ∃ r, e = .returned (.tuple #[.int .u32 (wN r), .int .i64 (graphCheck N l)]) ∧ Below w.heap.size w w' ∧
      (graphCheck N l ≠ 0 → r = w0) ∧ (graphCheck N l = 0 → ∃ m : Nat, N = m ∧ r = gb m l (2 ^ m)) := by
  have hb0 := (Below.refl w.heap.size w).alloc (Nat.le_refl _) (.cells #[.int .i64 N, .slice A n c] 34)
  have hB0 := Blk.new w 34 #[.int .i64 N, .slice A n c]
  have HW := Lib.hid (graph_Check N A n c l (w.alloc (.cells #[.int .i64 N, .slice A n c] 34)) hl hn ((hr.alloc (Nat.le_refl _) _).more (by rw [size_alloc']; omega)))
  have HL := Lib.hid hl
  have HR := Lib.hid hr
  have HB0 := Lib.hid hb0
  have HK0 := Lib.hid hB0
  have c0 := hB0.cell 0
  have c1 := hB0.cell 1
  clear hr hb0 hB0 hl
  go_enter Try.func19, Try.ntmps19
  go_wp2_with fail
  refine HW.out.mono ?_
  clear HW
  rintro e v1 ⟨rfl, hb1⟩
  have hk1 := HK0.out.below hb1 (by rw [size_alloc']; omega)
  have hb1' := HB0.out.trans (hb1.mono (by rw [size_alloc']; omega))
  have hz1 := hb1'.size
  have hlt1 := hk1.lt
  have HB1 := Lib.hid hb1'
  have HK1 := Lib.hid hk1
  clear c0 c1 hb1 hb1'
  have c0 := hk1.cell 0
  have c1 := hk1.cell 1
  clear hk1
  by_cases h0 : graphCheck N l = 0
  · obtain ⟨m, rfl, hg⟩ := graph_good h0
    have HZ := Lib.hid h0
    have HG := Lib.hid hg
    have hm := hg.n10
    have HN := Lib.hid (graph_Near m A n c l v1 HL.out hg ((HR.out.below HB1.out).more hz1))
    rw [h0]
    clear h0 hg
    go_wp2_with fail
    refine HN.out.mono ?_
    clear HN
    rintro e v2 ⟨A1, rfl, hb2, hown2⟩
    have hb2' := HB1.out.trans (hb2.mono hz1)
    have hz2 := hb2'.size
    have HB2 := Lib.hid hb2'
    have HE2 := Lib.hid hown2.els
    have hk2 := HK1.out.below hb2 hlt1
    clear c0 c1
    have c0 := hk2.cell 0
    have hlim := Lib.hid (mask_lim hm)
    have hP1 := pow_le_1024 hm
    obtain ⟨P, hP⟩ : ∃ P, P = 2 ^ m := ⟨_, rfl⟩
    have HP := Lib.hid hP
    have HLIM : Hid (wN (wAdd (wSub (wShl w1 m) w1) w1) = (P : Int)) := by
      show wN (wAdd (wSub (wShl w1 m) w1) w1) = (P : Int)
      rw [hlim.out, hP]
    rw [← hP] at hP1
    clear hb2 hb2' hown2 HK1 hk2 hP hlim
    go_wp2_with fail
    go_loopw [21, 6] (fun i s wr => ∃ k q : Nat, k ≤ P ∧ i = .int .u32 (wN (nw k)) ∧ s = .int .u32 (wN (gb m l k)) ∧ wr = v2.drewN q) (fun i _ _ => P - (intOf i).toNat)
    case atStart => exact ⟨0, 0, by omega, rfl, rfl, rfl⟩
    case round =>
      clear c0
      obtain ⟨k, q, hk, rfl, rfl, rfl⟩ := hrel
      have hkw := wN_nw (k := k) (by omega)
      have hkw1 := wN_nw (k := k + 1) (by omega)
      have HKW := Lib.hid hkw
      have HKW1 := Lib.hid hkw1
      have HSU := Lib.hid (nw_succ k)
      by_cases hlt : k < P
      · have hlt' : wN (nw k) < wN (wAdd (wSub (wShl w1 m) w1) w1) := by rw [hkw, HLIM.out]; omega
        have HSK1 := Lib.hid (@gb_skip1 m l k)
        have HSK2 := Lib.hid (@gb_skip2 m l k)
        have HTK := Lib.hid (@gb_take m l k)
        obtain ⟨x, hx⟩ : ∃ x, x = nw k := ⟨_, rfl⟩
        obtain ⟨y, hy⟩ : ∃ y, y = gb m l k := ⟨_, rfl⟩
        rw [← hx] at hlt' ⊢
        rw [← hy]
        have HX := Lib.hid hx
        have HY := Lib.hid hy
        have p1 := pop_le x
        have p2 := pop_le y
        obtain ⟨px, hpx⟩ : ∃ p, p = pop x := ⟨_, rfl⟩
        obtain ⟨py, hpy⟩ : ∃ p, p = pop y := ⟨_, rfl⟩
        rw [← hpx] at p1
        rw [← hpy] at p2
        have HPX := Lib.hid hpx
        have HPY := Lib.hid hpy
        clear hx hy hpx hpy hkw hkw1
        go_wp2_with fail
        refine (OnesCount32_any _ _).mono ?_
        rintro e w' ⟨rfl, q1, rfl⟩
        rw [← HPX.out]
        go_wp2_with fail
        refine (OnesCount32_any _ _).mono ?_
        rintro e w' ⟨rfl, q2, rfl⟩
        rw [← HPY.out]
        by_cases hp : px < py
        · have HC := Lib.hid (crowd_covers (nearL m l) x A1 m m v2.heap.size (v2.drewN (q + q1 + q2)) (nearL_length m l) (by omega) HE2.out)
          have hcc := covers_cov HG.out x
          rcases hcv : covL l x with _ | _
          · rw [hcv] at hcc
            have HCC := Lib.hid hcc
            have HCV := Lib.hid hcv
            clear hcc hcv
            go_wp2_with fail
            refine HC.out.mono ?_
            rintro e w' ⟨rfl, rfl⟩
            rw [HCC.out]
            go_wp2_with fail
            go_roundw
            case rel => exact ⟨k + 1, q + q1 + q2, by omega, by rw [HX.out, HSU.out], by rw [HSK2.out (by rw [← HX.out]; exact HCV.out), ← HY.out], rfl⟩
            case measure => rw [HX.out, HSU.out]; simp [intOf]; rw [HKW.out, HKW1.out]; omega
          · rw [hcv] at hcc
            have HCC := Lib.hid hcc
            have HCV := Lib.hid hcv
            clear hcc hcv
            go_wp2_with fail
            refine HC.out.mono ?_
            rintro e w' ⟨rfl, rfl⟩
            rw [HCC.out]
            go_wp2_with fail
            go_roundw
            case rel => exact ⟨k + 1, q + q1 + q2, by omega, by rw [HX.out, HSU.out], by rw [HTK.out (by rw [← HX.out, ← HY.out, ← HPX.out, ← HPY.out]; exact hp) (by rw [← HX.out]; exact HCV.out), ← HX.out], rfl⟩
            case measure => rw [HX.out, HSU.out]; simp [intOf]; rw [HKW.out, HKW1.out]; omega
        · go_wp2_with fail
          go_roundw
          case rel => exact ⟨k + 1, q + q1 + q2, by omega, by rw [HX.out, HSU.out], by rw [HSK1.out (by rw [← HX.out, ← HY.out, ← HPX.out, ← HPY.out]; exact hp), ← HY.out], rfl⟩
          case measure => rw [HX.out, HSU.out]; simp [intOf]; rw [HKW.out, HKW1.out]; omega
      · obtain rfl : k = P := by omega
        have hge : ¬ wN (nw k) < wN (wAdd (wSub (wShl w1 m) w1) w1) := by rw [hkw, HLIM.out]; omega
        obtain ⟨y, hy⟩ : ∃ y, y = gb m l k := ⟨_, rfl⟩
        rw [← hy]
        have HY := Lib.hid hy
        clear hkw hkw1 hy
        go_wp2_with fail
        refine bodyPost_ret (v := .tuple #[.int .u32 (wN y), .int .i64 0]) (by simp [results, Try.results19, go_sem]) rfl ?_
        exact ⟨y, by rw [HZ.out], below_drewN HB2.out q, fun h => absurd HZ.out h, fun _ => ⟨m, rfl, by rw [← HP.out]; exact HY.out⟩⟩
  · have h1 : (graphCheck N l != 0) = true := by simpa using h0
    have H0 := Lib.hid h0
    obtain ⟨x, hx⟩ : ∃ x, x = graphCheck N l := ⟨_, rfl⟩
    rw [← hx] at h1 ⊢
    have HX := Lib.hid hx
    clear h0 hx
    go_wp2_with fail
    refine bodyPost_ret (v := .tuple #[.int .u32 0, .int .i64 x]) (by simp [results, Try.results19, go_sem]) rfl ?_
    exact ⟨w0, by rw [HX.out]; rfl, HB1.out, fun _ => rfl, fun h => absurd h H0.out⟩

set_option maxRecDepth 100000 in
set_option maxHeartbeats 1000000 in
theorem ref_Guard (m : Nat) (A : Option Addr) (n c : Nat) (l : List Ed) (w : World) (hl : l.length = n) (hg : GoodG m l) (hr : Els w w.heap.size 3 Ed.cells A l) :
    Calls Try.prog 21 #[.agg #[.int .i64 m, .slice A n c]] w fun e w' => e = .returned (.int .u32 (wN (gb m l (2 ^ m)))) ∧ Below w.heap.size w w' := by
  have hm := hg.n10
  have hn : n ≤ 45 := by have := hg.m45; omega
  have HL := Lib.hid hl
  have HG := Lib.hid hg
  have HR := Lib.hid hr
  have hB0 := Blk.new w 34 #[.int .i64 m, .slice A n c]
  have HB0 := Lib.hid ((Below.refl w.heap.size w).alloc (Nat.le_refl _) (.cells #[.int .i64 m, .slice A n c] 34))
  have HK0 := Lib.hid hB0
  have c0 := hB0.cell 0
  have hP1 := pow_le_1024 hm
  obtain ⟨P, hP⟩ : ∃ P, P = 2 ^ m := ⟨_, rfl⟩
  have HP := Lib.hid hP
  have HLIM : Hid (wN (wShl w1 m) = (P : Int)) := by
    show wN (wShl w1 m) = (P : Int)
    rw [wN_pow (by omega), hP]
  rw [← hP] at hP1 ⊢
  clear hl hg hr hB0 hP
  go_enter Try.func21, Try.ntmps21
  go_wp2_with fail
  go_loopw [4, 3] (fun i s wr => ∃ k : Nat, k ≤ P ∧ i = .int .u32 (wN (nw k)) ∧ s = .int .u32 (wN (gb m l k)) ∧ Below w.heap.size w wr ∧ Blk wr w.heap.size 34 #[.int .i64 m, .slice A n c]) (fun i _ _ => P - (intOf i).toNat)
  case atStart => exact ⟨0, by omega, rfl, rfl, HB0.out, HK0.out⟩
  case round =>
    clear c0 HK0 HB0
    rename World => wr
    obtain ⟨k, hk, rfl, rfl, hb, hblk⟩ := hrel
    have hsz := hb.size
    have hlt1 := hblk.lt
    have c0 := hblk.cell 0
    have c1 := hblk.cell 1
    have HB := Lib.hid hb
    have HK := Lib.hid hblk
    have hkw := wN_nw (k := k) (by omega)
    have hkw1 := wN_nw (k := k + 1) (by omega)
    have HKW := Lib.hid hkw
    have HKW1 := Lib.hid hkw1
    have HSU := Lib.hid (nw_succ k)
    clear hb hblk
    by_cases hlt : k < P
    · have hlt' : wN (nw k) < wN (wShl w1 m) := by rw [hkw, HLIM.out]; omega
      have HSK1 := Lib.hid (@gb_skip1 m l k)
      have HSK2 := Lib.hid (@gb_skip2 m l k)
      have HTK := Lib.hid (@gb_take m l k)
      obtain ⟨x, hx⟩ : ∃ x, x = nw k := ⟨_, rfl⟩
      obtain ⟨y, hy⟩ : ∃ y, y = gb m l k := ⟨_, rfl⟩
      rw [← hx] at hlt' ⊢
      rw [← hy]
      have HX := Lib.hid hx
      have HY := Lib.hid hy
      have p1 := pop_le x
      have p2 := pop_le y
      obtain ⟨px, hpx⟩ : ∃ p, p = pop x := ⟨_, rfl⟩
      obtain ⟨py, hpy⟩ : ∃ p, p = pop y := ⟨_, rfl⟩
      rw [← hpx] at p1
      rw [← hpy] at p2
      have HPX := Lib.hid hpx
      have HPY := Lib.hid hpy
      clear hx hy hpx hpy hkw hkw1
      go_wp2_with fail
      refine (Size_any _ _).mono ?_
      rintro e w' ⟨rfl, rfl⟩
      rw [← HPX.out]
      go_wp2_with fail
      refine (Size_any _ _).mono ?_
      rintro e w' ⟨rfl, rfl⟩
      rw [← HPY.out]
      by_cases hp : px < py
      · have HC := Lib.hid (ref_Loose m (wBut (wSub (wShl w1 m) w1) x) A n c l wr HL.out hn ((HR.out.below HB.out).more hsz))
        have hcc := loose_cov HG.out x
        rcases hcv : covL l x with _ | _
        · rw [hcv] at hcc
          have HCC : Hid (looseB l (wBut (wSub (wShl w1 m) w1) x) = false) := hcc
          have HCV := Lib.hid hcv
          clear hcc hcv
          go_wp2_with fail
          refine HC.out.mono ?_
          rintro e w' ⟨rfl, hb2⟩
          rw [HCC.out]
          have HB2 := Lib.hid (HB.out.trans (hb2.mono hsz))
          have HK2 := Lib.hid (HK.out.below hb2 hlt1)
          clear hb2
          go_wp2_with fail
          go_roundw
          case rel => exact ⟨k + 1, by omega, by rw [HX.out, HSU.out], by rw [HSK2.out (by rw [← HX.out]; exact HCV.out), ← HY.out], HB2.out, HK2.out⟩
          case measure => rw [HX.out, HSU.out]; simp [intOf]; rw [HKW.out, HKW1.out]; omega
        · rw [hcv] at hcc
          have HCC : Hid (looseB l (wBut (wSub (wShl w1 m) w1) x) = true) := hcc
          have HCV := Lib.hid hcv
          clear hcc hcv
          go_wp2_with fail
          refine HC.out.mono ?_
          rintro e w' ⟨rfl, hb2⟩
          rw [HCC.out]
          have HB2 := Lib.hid (HB.out.trans (hb2.mono hsz))
          have HK2 := Lib.hid (HK.out.below hb2 hlt1)
          clear hb2
          go_wp2_with fail
          go_roundw
          case rel => exact ⟨k + 1, by omega, by rw [HX.out, HSU.out], by rw [HTK.out (by rw [← HX.out, ← HY.out, ← HPX.out, ← HPY.out]; exact hp) (by rw [← HX.out]; exact HCV.out), ← HX.out], HB2.out, HK2.out⟩
          case measure => rw [HX.out, HSU.out]; simp [intOf]; rw [HKW.out, HKW1.out]; omega
      · go_wp2_with fail
        go_roundw
        case rel => exact ⟨k + 1, by omega, by rw [HX.out, HSU.out], by rw [HSK1.out (by rw [← HX.out, ← HY.out, ← HPX.out, ← HPY.out]; exact hp), ← HY.out], HB.out, HK.out⟩
        case measure => rw [HX.out, HSU.out]; simp [intOf]; rw [HKW.out, HKW1.out]; omega
    · obtain rfl : k = P := by omega
      have hge : ¬ wN (nw k) < wN (wShl w1 m) := by rw [hkw, HLIM.out]; omega
      obtain ⟨y, hy⟩ : ∃ y, y = gb m l k := ⟨_, rfl⟩
      rw [← hy]
      have HY := Lib.hid hy
      clear hkw hkw1 hy
      go_wp2_with fail
      go_ret
      exact ⟨ret_u32 (by rw [HY.out]), HB.out⟩

set_option maxRecDepth 100000 in
set_option maxHeartbeats 1000000 in
theorem law_CrowdCovers (N : Int) (A : Option Addr) (n c : Nat) (l : List Ed) (w : World) (hl : l.length = n) (hn : n ≤ maxLen) (hc : n ≤ c) (hr : Els w w.heap.size 3 Ed.cells A l) :
    Calls Try.prog 4 #[.agg #[.int .i64 N, .slice A n c]] w fun e w' => e = .returned (.bool true) ∧ Below w.heap.size w w' := by
  have hb0 := (Below.refl w.heap.size w).alloc (Nat.le_refl _) (.cells #[.int .i64 N, .slice A n c] 34)
  have hB0 := Blk.new w 34 #[.int .i64 N, .slice A n c]
  have HW := Lib.hid (crowd_Cover N A n c l (w.alloc (.cells #[.int .i64 N, .slice A n c] 34)) hl hn ((hr.alloc (Nat.le_refl _) _).more (by rw [size_alloc']; omega)))
  have HL := Lib.hid hl
  have HR := Lib.hid hr
  have HM := Lib.hid hn
  have HC := Lib.hid hc
  have HB0 := Lib.hid hb0
  have HK0 := Lib.hid hB0
  have c0 := hB0.cell 0
  have c1 := hB0.cell 1
  clear hr hb0 hB0 hl hn hc
  go_enter Try.func4, Try.ntmps4
  go_wp2_with fail
  refine HW.out.mono ?_
  clear HW
  rintro e v1 ⟨r, rfl, hb1, hbad, hgood⟩
  have hk1 := HK0.out.below hb1 (by rw [size_alloc']; omega)
  have hb1' := HB0.out.trans (hb1.mono (by rw [size_alloc']; omega))
  have hz1 := hb1'.size
  have hlt1 := hk1.lt
  have HB1 := Lib.hid hb1'
  have HK1 := Lib.hid hk1
  have HBAD := Lib.hid hbad
  have HGOOD := Lib.hid hgood
  clear c0 c1 hb1 hb1' hbad hgood
  have c0 := hk1.cell 0
  have c1 := hk1.cell 1
  clear hk1
  have HGC := Lib.hid (ref_GraphCheck N A n c l v1 HL.out HM.out HC.out ((HR.out.below HB1.out).more hz1))
  go_wp2_with fail
  refine HGC.out.mono ?_
  clear HGC
  rintro e v2 ⟨rfl, hb2⟩
  have hk2 := HK1.out.below hb2 hlt1
  have hb2' := HB1.out.trans (hb2.mono hz1)
  have hz2 := hb2'.size
  have HB2 := Lib.hid hb2'
  clear c0 c1 hb2 hb2'
  by_cases h0 : graphCheck N l = 0
  · obtain ⟨m, rfl, rfl⟩ := HGOOD.out h0
    obtain ⟨m', hm', hg⟩ := graph_good h0
    obtain rfl : m = m' := by omega
    have HGD := Lib.hid (ref_Guard m A n c l v2 HL.out hg ((HR.out.below HB2.out).more hz2))
    rw [h0]
    have c0 := hk2.cell 0
    have c1 := hk2.cell 1
    have hbb : ∀ x : BitVec 32, (x == x) = true := fun x => by simp
    have HBB := Lib.hid (hbb (gb m l (2 ^ m)))
    obtain ⟨y, hy⟩ : ∃ y, y = gb m l (2 ^ m) := ⟨_, rfl⟩
    rw [← hy] at HGD HBB ⊢
    clear h0 hm' hg HBAD HGOOD hk2 hbb hy
    go_wp2_with fail
    refine HGD.out.mono ?_
    clear HGD
    rintro e v3 ⟨rfl, hb3⟩
    have HB3 := Lib.hid (HB2.out.trans (hb3.mono hz2))
    have hyy : (y == y) = true := HBB.out
    clear hb3
    go_wp2_with fail
    go_ret
    exact ⟨rfl, HB3.out⟩
  · have hr0 := HBAD.out h0
    subst hr0
    have h1 : (graphCheck N l != 0) = true := by simpa using h0
    have h2 : (graphCheck N l == graphCheck N l) = true := by simp
    have h3 : wN w0 = 0 := rfl
    rw [h3]
    clear HBAD HGOOD h3 hk2
    generalize graphCheck N l = x at h1 h2
    clear h0
    go_wp2_with fail
    go_ret
    exact ⟨rfl, HB2.out⟩
theorem CrowdCovers_row (N : Int) (s : Sls (Int × Int × Int)) (w : World) (_hN : OkI N) (h : s.Good w w.heap.size 3 (fun p => [.int .i64 p.1, .int .i64 p.2.1, .int .i64 p.2.2]) (fun p => OkI p.1 ∧ OkI p.2.1 ∧ OkI p.2.2)) :
    Calls Try.prog 4 #[.agg #[.int .i64 N, s.val]] w fun e w' => e = .returned (.bool true) ∧ Below w.heap.size w w' :=
  law_CrowdCovers N s.A s.l.length s.c (s.l.map Ed.of) w (by simp) h.1 h.2.1 (h.2.2.1.map_ Ed.of fun _ _ => rfl)
end Go.Proofs.Ytcogmedpeeigcaa
