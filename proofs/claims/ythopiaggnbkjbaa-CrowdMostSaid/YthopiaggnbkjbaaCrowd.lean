/- The largest sets: the program's and the reference's. Conditions: the edges read as a list. -/
import Derived.Test.YthopiaggnbkjbaaCrowdA
namespace Go.Proofs.Ythopiaggnbkjbaa
open Go.RowKit
attribute [local go_sem ↓] w_and w_or w_xor w_andNot w_and1 w_and255 w_xor1 w_or0 w_shl w_shl1 w_shr w_sub w_add w_sub1 w_add1
attribute [local go_sem] w_eq0 w_ne0 w_eq1 w_eq w_ne

theorem bool_cases (b : Bool) : b = false ∨ b = true := by cases b <;> simp
set_option maxRecDepth 100000 in
theorem crowd_largest (A : Option Addr) (n c : Nat) (t : List (BitVec 32)) (w : World) (ht : t.length = n) (hn : n ≤ 10) (hr : Els w w.heap.size 1 wcell A t) :
    Calls Try.prog 10 #[.slice A n c] w fun e w' => ∃ b, e = .returned (.int .u32 (wN b)) ∧ Below w.heap.size w w' ∧ Found t w0 (maskW n) w0 b := by
  have hmb : ∀ j, (maskW n).getLsbD j = true → j < n := fun j hj => by
    rw [b_mask (by omega)] at hj
    simpa using hj
  have hop : Open t w0 (maskW n) := ⟨fun i j _ hi => by (rw [b_0] at hi; cases hi), fun a b ha => by (rw [b_0] at ha; cases ha)⟩
  have hk := Blk.new w 46 #[.slice A n c, .int .u32 (wN w0)]
  have hs : SeekE A n c w.heap.size t w0 (maskW n) w0 (w.alloc (.cells #[.slice A n c, .int .u32 (wN w0)] 46)) :=
    crowd_seek A n c w.heap.size t ht hn n w0 (maskW n) w0 _ (Nat.le_refl _) hmb hop (hr.alloc (Nat.le_refl _) _) hk
  have hs2 : Calls Try.prog 16 #[.pointer (some ⟨w.heap.size, 0, none⟩), .int .u32 0, .int .u32 (wN (wSub (wShl w1 n) w1))] (w.alloc (.cells #[.slice A n c, .int .u32 0] 46)) fun e w' => (∃ v, e = .returned v) ∧ ∃ b, Found t w0 (maskW n) w0 b ∧ Below w.heap.size (w.alloc (.cells #[.slice A n c, .int .u32 0] 46)) w' ∧ Blk w' w.heap.size 46 #[.slice A n c, .int .u32 (wN b)] := hs
  have HS := Lib.hid hs2
  have HB := Lib.hid ((Below.refl w.heap.size w).alloc (Nat.le_refl _) (.cells #[.slice A n c, .int .u32 0] 46))
  clear hs hs2 hop hmb hk hr ht
  go_enter Try.func10, Try.ntmps10
  go_wp2_with fail
  refine HS.out.mono ?_
  clear HS
  rintro e w2 ⟨⟨v, rfl⟩, b, hf, hb2, hk2⟩
  have HF := Lib.hid hf
  have HB2 := Lib.hid (HB.out.trans hb2)
  have c1 := hk2.cell 1
  clear hf hb2 hk2 HB
  go_wp2_with fail
  go_ret
  exact ⟨b, rfl, HB2.out, HF.out⟩

def othF (N : Nat) (t : List (BitVec 32)) (k : Nat) : List (BitVec 32) := (List.range N).map fun i => if i < k then wBut (maskW N) (lw t i) else lw t i
theorem othF_length (N : Nat) (t : List (BitVec 32)) (k : Nat) : (othF N t k).length = N := by simp [othF]
theorem othF_at {N : Nat} (t : List (BitVec 32)) (k : Nat) {i : Nat} (hi : i < N) : lw (othF N t k) i = if i < k then wBut (maskW N) (lw t i) else lw t i := by
  show (othF N t k).getD i w0 = _
  unfold othF
  simp [List.getD_eq_getElem?_getD, hi]
theorem othF_0 {N : Nat} {t : List (BitVec 32)} (ht : t.length = N) : othF N t 0 = t := by
  apply List.ext_getElem (by rw [othF_length, ht])
  intro i h1 h2
  have := othF_at (N := N) t 0 (i := i) (by rw [othF_length] at h1; exact h1)
  rw [lw_at _ _ h1, lw_at _ _ h2, if_neg (by omega)] at this
  exact this
theorem othF_succ {N : Nat} {t : List (BitVec 32)} {k : Nat} (hk : k < N) : (othF N t k).set k (wBut (maskW N) (lw t k)) = othF N t (k + 1) := by
  apply List.ext_getElem (by rw [List.length_set, othF_length, othF_length])
  intro i h1 h2
  have hi : i < N := by rw [othF_length] at h2; exact h2
  have e1 := othF_at (N := N) t k hi
  have e2 := othF_at (N := N) t (k + 1) hi
  rw [lw_at _ _ (by rw [othF_length]; exact hi)] at e1
  rw [lw_at _ _ h2] at e2
  rw [List.getElem_set, e1, e2]
  by_cases hik : k = i
  · subst hik; rw [if_pos rfl, if_pos (by omega)]
  · rw [if_neg hik]
    by_cases h3 : i < k
    · rw [if_pos h3, if_pos (by omega)]
    · rw [if_neg h3, if_neg (by omega)]
def otherL (N : Nat) (l : List Ed) : List (BitVec 32) := othF N (nearL N l) N
theorem other_bit {N : Nat} {l : List Ed} (h : GoodG N l) {i j : Nat} (hji : j < i) (hi : i < N) : (lw (otherL N l) i).getLsbD j = !adj l i j := by
  unfold otherL
  have hN := h.n10
  rw [othF_at _ _ hi, if_pos hi, b_but, b_mask (by omega), near_bit h hi]
  have : j < N := by omega
  simp [this]

set_option maxRecDepth 100000 in
set_option maxHeartbeats 1000000 in
theorem crowd_others (N : Nat) (A : Option Addr) (n c : Nat) (l : List Ed) (w : World) (hl : l.length = n) (hg : GoodG N l) (hr : Els w w.heap.size 3 Ed.cells A l) :
    Calls Try.prog 14 #[.agg #[.int .i64 N, .slice A n c]] w fun e w' => ∃ A', e = .returned (.slice A' N N) ∧ Below w.heap.size w w' ∧ Els w' w'.heap.size 1 wcell A' (otherL N l) := by
  have hN := hg.n10
  have hb0 := (Below.refl w.heap.size w).alloc (Nat.le_refl _) (.cells #[.int .i64 N, .slice A n c] 24)
  have hB0 := Blk.new w 24 #[.int .i64 N, .slice A n c]
  have HN := Lib.hid (graph_Near N A n c l (w.alloc (.cells #[.int .i64 N, .slice A n c] 24)) hl hg ((hr.alloc (Nat.le_refl _) _).more (by rw [size_alloc']; omega)))
  have HB0 := Lib.hid hb0
  have HK0 := Lib.hid hB0
  have c0 := hB0.cell 0
  have c1 := hB0.cell 1
  clear hr hb0 hB0 hl hg
  go_enter Try.func14, Try.ntmps14
  go_wp2_with fail
  refine HN.out.mono ?_
  clear HN
  rintro e v1 ⟨A1, rfl, hb1, hown1⟩
  have hk1 := HK0.out.below hb1 (by rw [size_alloc']; omega)
  have hb1' := HB0.out.trans (hb1.mono (by rw [size_alloc']; omega))
  rw [size_alloc'] at hown1
  have HT := Lib.hid (nearL_length N l)
  have HO1 : Hid (otherL N l = othF N (nearL N l) N) := Lib.hid rfl
  obtain ⟨t, htt⟩ : ∃ t, t = nearL N l := ⟨_, rfl⟩
  rw [← htt] at HT HO1 hown1
  have h00 := Lib.hid (othF_0 HT.out)
  have HB1 := Lib.hid hb1'
  have HK1 := Lib.hid hk1
  have HW1 : Hid (Own v1 (w.heap.size + 1) 25 1 wcell A1 N (othF N t 0)) := Lib.hid (by rw [h00.out]; exact hown1.weaken (by omega))
  clear htt c0 c1 hb1 hb1' hk1 hown1
  go_wp2_with fail
  go_loopw [10] (fun i wr => ∃ k : Nat, k ≤ N ∧ i = .int .i64 k ∧ Below w.heap.size w wr ∧ Blk wr w.heap.size 24 #[.int .i64 N, .slice A n c] ∧ Own wr (w.heap.size + 1) 25 1 wcell A1 N (othF N t k)) (fun i _ => N - (intOf i).toNat)
  case atStart => exact ⟨0, by omega, rfl, HB1.out, HK1.out, HW1.out⟩
  case round =>
    clear HB1 HK1 HW1 h00
    rename World => wr
    obtain ⟨k, hk, rfl, hb, hblk, hown⟩ := hrel
    have hsz := hb.size
    have c0 := hblk.cell 0
    have HB := Lib.hid hb
    have HK := Lib.hid hblk
    have HO := Lib.hid hown
    clear hb hblk hown
    by_cases hlt : k < N
    · have hk2 : k < (othF N t k).length := by rw [othF_length]; exact hlt
      have hv := othF_at t k hlt
      rw [if_neg (by omega)] at hv
      have HS := Lib.hid (othF_succ (t := t) hlt)
      obtain ⟨q1, rfl, hq1, hq2, ca, fa⟩ := HO.out.cell1 (f := fun x => .int .u32 (wN x)) (k := k) hk2
      rw [← lw_at _ k hk2, hv] at ca
      have hO2 := HO.out.put1 (f := fun x => .int .u32 (wN x)) (k := k) (x := wBut (wSub (wShl w1 N) w1) (lw t k)) hk2
      rw [show wBut (wSub (wShl w1 N) w1) (lw t k) = wBut (maskW N) (lw t k) from rfl, HS.out] at hO2
      have HO2 : Hid (Own (wr.setCell ⟨q1, k, none⟩ (.int .u32 (wN (wBut (wSub (wShl w1 N) w1) (lw t k))))) (w.heap.size + 1) 25 1 wcell (some ⟨q1, 0, none⟩) N (othF N t (k + 1))) := Lib.hid hO2
      clear hO2 hv hk2
      go_wp2_with fail
      go_roundw
      case rel => exact ⟨k + 1, by omega, by go_num, HB.out.setCell (show w.heap.size ≤ q1 by omega) _, HK.out.far (show w.heap.size ≠ q1 by omega) _, HO2.out⟩
      case measure => simp [intOf]; omega
    · obtain rfl : k = N := by omega
      go_wp2_with fail
      go_ret
      exact ⟨A1, rfl, HB.out, by rw [HO1.out]; exact HO.out.els⟩

set_option maxRecDepth 100000 in
set_option maxHeartbeats 1000000 in
theorem ref_Near (N : Int) (i j : Nat) (A : Option Addr) (n c : Nat) (l : List Ed) (w : World) (hl : l.length = n) (hn : n ≤ 45) (hr : Els w w.heap.size 3 Ed.cells A l) :
    Calls Try.prog 18 #[.agg #[.int .i64 N, .slice A n c], .int .i64 i, .int .i64 j] w fun e w' => e = .returned (.bool (adj l i j)) ∧ Below w.heap.size w w' := by
  have HL := Lib.hid hl
  clear hl
  have d0 := (Blk.new w 24 #[.int .i64 N, .slice A n c]).cell 1
  go_enter Try.func18, Try.ntmps18
  go_wp2_with fail
  go_loopw [12] (fun i' wr => ∃ k : Nat, k ≤ n ∧ i' = .int .i64 k ∧ Below w.heap.size w wr ∧ (l.take k).any (joins i j) = false) (fun i' _ => n - (intOf i').toNat)
  case atStart => exact ⟨0, by omega, rfl, (Below.refl _ _).alloc (Nat.le_refl _) _, rfl⟩
  case round =>
    clear d0
    rename World => wr
    obtain ⟨k, hk, rfl, hb, hall⟩ := hrel
    have hsz := hb.size
    have HB := Lib.hid hb
    have HA := Lib.hid hall
    clear hall
    by_cases hlt : k < n
    · have hkl : k < l.length := by rw [HL.out]; exact hlt
      obtain ⟨b0, off, rfl, hbb, g0, g1, g2⟩ := (hr.below hb).at3 hkl
      have HS := Lib.hid (any_take_succ (joins i j) l k hkl)
      have HF := Lib.hid (fun h => any_of_get (p := joins i j) (l := l) hkl h)
      obtain ⟨e, he⟩ : ∃ e, e = l[k] := ⟨_, rfl⟩
      have HE := Lib.hid he
      rw [← he] at g0 g1 g2
      clear hb he
      have hE0 := Blk.new wr 36 #[.int .i64 e.a, .int .i64 e.b, .int .i64 e.w]
      have e0 := hE0.cell 0
      have e1 := hE0.cell 1
      clear hE0
      have hT : joins i j e = decide ((e.a = i ∧ e.b = j) ∨ (e.a = j ∧ e.b = i)) := rfl
      have HT := Lib.hid hT
      have b1 : (e.a == (i : Int)) = decide (e.a = i) := by rw [Bool.eq_iff_iff]; simp
      have b2 : (e.b == (j : Int)) = decide (e.b = j) := by rw [Bool.eq_iff_iff]; simp
      have b3 : (e.a == (j : Int)) = decide (e.a = j) := by rw [Bool.eq_iff_iff]; simp
      have b4 : (e.b == (i : Int)) = decide (e.b = i) := by rw [Bool.eq_iff_iff]; simp
      have hgo : joins i j e = true ∨ joins i j e = false := by cases joins i j e <;> simp
      have HB1 := Lib.hid b1
      have HB2 := Lib.hid b2
      have HB3 := Lib.hid b3
      have HB4 := Lib.hid b4
      clear b1 b2 b3 b4 hT
      have no : ∀ {p : Prop} [Decidable p] {b : Bool}, b = decide p → ¬ p → b = false := fun h hp => by rw [h]; simpa using hp
      have ye : ∀ {p : Prop} [Decidable p] {b : Bool}, b = decide p → p → b = true := fun h hp => by rw [h]; simpa using hp
      by_cases r1 : e.a = i
      · by_cases r2 : e.b = j
        · have t1 := ye HB1.out r1
          have t2 := ye HB2.out r2
          have HJ := Lib.hid (HT.out.trans (decide_eq_true (.inl ⟨r1, r2⟩)))
          clear r1 r2 hgo no ye
          go_wp2_with fail
          go_ret
          exact ⟨ret_bool (HF.out (by rw [← HE.out]; exact HJ.out)).symm, HB.out.alloc hsz _⟩
        · by_cases r3 : e.a = j
          · by_cases r4 : e.b = i
            · have t1 := ye HB1.out r1
              have t2 := no HB2.out r2
              have t3 := ye HB3.out r3
              have t4 := ye HB4.out r4
              have HJ := Lib.hid (HT.out.trans (decide_eq_true (.inr ⟨r3, r4⟩)))
              clear r1 r2 r3 r4 hgo no ye
              go_wp2_with fail
              go_ret
              exact ⟨ret_bool (HF.out (by rw [← HE.out]; exact HJ.out)).symm, HB.out.alloc hsz _⟩
            · have t1 := ye HB1.out r1
              have t2 := no HB2.out r2
              have t3 := ye HB3.out r3
              have t4 := no HB4.out r4
              have HJ := Lib.hid (HT.out.trans (decide_eq_false (by omega)))
              clear r1 r2 r3 r4 hgo no ye
              go_wp2_with fail
              go_roundw
              case rel => exact ⟨k + 1, by omega, by go_num, HB.out.alloc hsz _, by rw [HS.out, HA.out, ← HE.out, HJ.out]; rfl⟩
              case measure => simp [intOf]; omega
          · have t1 := ye HB1.out r1
            have t2 := no HB2.out r2
            have t3 := no HB3.out r3
            have HJ := Lib.hid (HT.out.trans (decide_eq_false (by omega)))
            clear r1 r2 r3 hgo no ye
            go_wp2_with fail
            go_roundw
            case rel => exact ⟨k + 1, by omega, by go_num, HB.out.alloc hsz _, by rw [HS.out, HA.out, ← HE.out, HJ.out]; rfl⟩
            case measure => simp [intOf]; omega
      · by_cases r3 : e.a = j
        · by_cases r4 : e.b = i
          · have t1 := no HB1.out r1
            have t3 := ye HB3.out r3
            have t4 := ye HB4.out r4
            have HJ := Lib.hid (HT.out.trans (decide_eq_true (.inr ⟨r3, r4⟩)))
            clear r1 r3 r4 hgo no ye
            go_wp2_with fail
            go_ret
            exact ⟨ret_bool (HF.out (by rw [← HE.out]; exact HJ.out)).symm, HB.out.alloc hsz _⟩
          · have t1 := no HB1.out r1
            have t3 := ye HB3.out r3
            have t4 := no HB4.out r4
            have HJ := Lib.hid (HT.out.trans (decide_eq_false (by omega)))
            clear r1 r3 r4 hgo no ye
            go_wp2_with fail
            go_roundw
            case rel => exact ⟨k + 1, by omega, by go_num, HB.out.alloc hsz _, by rw [HS.out, HA.out, ← HE.out, HJ.out]; rfl⟩
            case measure => simp [intOf]; omega
        · have t1 := no HB1.out r1
          have t3 := no HB3.out r3
          have HJ := Lib.hid (HT.out.trans (decide_eq_false (by omega)))
          clear r1 r3 hgo no ye
          go_wp2_with fail
          go_roundw
          case rel => exact ⟨k + 1, by omega, by go_num, HB.out.alloc hsz _, by rw [HS.out, HA.out, ← HE.out, HJ.out]; rfl⟩
          case measure => simp [intOf]; omega
    · obtain rfl : k = n := by omega
      have hno := Lib.hid (any_take_all (by rw [HL.out]; omega) HA.out)
      clear HA
      go_wp2_with fail
      go_ret
      exact ⟨ret_bool hno.out.symm, HB.out⟩

set_option maxRecDepth 100000 in
set_option maxHeartbeats 1000000 in
theorem ref_Crowded (m : Nat) (x : BitVec 32) (ap : Bool) (A : Option Addr) (n c : Nat) (l : List Ed) (w : World) (hl : l.length = n) (hg : GoodG m l) (hr : Els w w.heap.size 3 Ed.cells A l) :
    Calls Try.prog 13 #[.agg #[.int .i64 m, .slice A n c], .int .u32 (wN x), .bool ap] w fun e w' => e = .returned (.bool (together (fun i j => adj l i j != ap) m x)) ∧ Below w.heap.size w w' := by
  have hm := hg.n10
  have hn : n ≤ 45 := by have := hg.m45; omega
  have HL := Lib.hid hl
  have HR := Lib.hid hr
  have hB0 := Blk.new w 24 #[.int .i64 m, .slice A n c]
  have HB0 := Lib.hid ((Below.refl w.heap.size w).alloc (Nat.le_refl _) (.cells #[.int .i64 m, .slice A n c] 24))
  have HK0 := Lib.hid hB0
  have HTG : Hid (together (fun i j => adj l i j != ap) m x = (List.range m).all fun i => (List.range i).all fun j => !(bitB x i && bitB x j && !(adj l i j != ap))) := Lib.hid rfl
  have c0 := hB0.cell 0
  clear hl hg hr hB0
  go_enter Try.func13, Try.ntmps13
  go_wp2_with fail
  go_loopw [7] (fun i' wr => ∃ i : Nat, i ≤ m ∧ i' = .int .i64 i ∧ Below w.heap.size w wr ∧ Blk wr w.heap.size 24 #[.int .i64 m, .slice A n c] ∧ ((List.range i).all fun i => (List.range i).all fun j => !(bitB x i && bitB x j && !(adj l i j != ap))) = true) (fun i' _ => m - (intOf i').toNat)
  case atStart => exact ⟨0, by omega, rfl, HB0.out, HK0.out, rfl⟩
  case round =>
    clear c0 HK0 HB0
    rename World => wr
    obtain ⟨i, hi, rfl, hb, hblk, hall⟩ := hrel
    have hsz := hb.size
    have c0 := hblk.cell 0
    have HB := Lib.hid hb
    have HK := Lib.hid hblk
    have HA := Lib.hid hall
    clear hb hblk hall
    by_cases hlt : i < m
    · go_wp2_with fail
      go_loopw [8] (fun j' w2 => ∃ j : Nat, j ≤ i ∧ j' = .int .i64 j ∧ Below w.heap.size w w2 ∧ Blk w2 w.heap.size 24 #[.int .i64 m, .slice A n c] ∧ ((List.range j).all fun j => !(bitB x i && bitB x j && !(adj l i j != ap))) = true) (fun j' _ => i - (intOf j').toNat)
      case atStart => exact ⟨0, by omega, rfl, HB.out, HK.out, rfl⟩
      case round =>
        clear c0 HB HK
        rename World => w2
        obtain ⟨j, hj, rfl, hb, hblk, hall⟩ := hrel
        have hsz := hb.size
        have c0 := hblk.cell 0
        have c1 := hblk.cell 1
        have HB := Lib.hid hb
        have HK := Lib.hid hblk
        have HJ := Lib.hid hall
        by_cases hlj : j < i
        · have HS : Hid (((List.range (j + 1)).all fun j => !(bitB x i && bitB x j && !(adj l i j != ap))) = !(bitB x i && bitB x j && !(adj l i j != ap))) := Lib.hid (by rw [List.range_succ, List.all_append, hall]; simp)
          have HF : Hid ((!(bitB x i && bitB x j && !(adj l i j != ap))) = false → together (fun i j => adj l i j != ap) m x = false) := Lib.hid (fun h => by
            rw [HTG.out, List.all_eq_false]
            refine ⟨i, List.mem_range.2 hlt, ?_⟩
            simp only [Bool.not_eq_true]
            rw [List.all_eq_false]
            exact ⟨j, List.mem_range.2 hlj, by rw [h]; simp⟩)
          have hltb := hblk.lt
          have HN := Lib.hid (ref_Near m i j A n c l w2 HL.out hn ((HR.out.below hb).more hsz))
          clear hb hblk hall
          rcases bool_cases (bitB x i) with r1 | r1
          · have R1 := Lib.hid r1
            clear r1 HN
            go_wp2_with fail
            refine (Bit_any x i _).mono ?_
            rintro _ w' ⟨rfl, rfl⟩
            rw [R1.out]
            go_wp2_with fail
            go_roundw
            case rel => exact ⟨j + 1, by omega, by go_num, HB.out, HK.out, by rw [HS.out, R1.out]; rfl⟩
            case measure => simp [intOf]; omega
          · rcases bool_cases (bitB x j) with r2 | r2
            · have R1 := Lib.hid r1
              have R2 := Lib.hid r2
              clear r1 r2 HN
              go_wp2_with fail
              refine (Bit_any x i _).mono ?_
              rintro _ w' ⟨rfl, rfl⟩
              rw [R1.out]
              go_wp2_with fail
              refine (Bit_any x j _).mono ?_
              rintro _ w' ⟨rfl, rfl⟩
              rw [R2.out]
              go_wp2_with fail
              go_roundw
              case rel => exact ⟨j + 1, by omega, by go_num, HB.out, HK.out, by rw [HS.out, R1.out, R2.out]; rfl⟩
              case measure => simp [intOf]; omega
            · rcases bool_cases (adj l i j == ap) with r3 | r3
              all_goals
                have R1 := Lib.hid r1
                have R2 := Lib.hid r2
                have R3 := Lib.hid r3
                have R4 : Hid ((adj l i j != ap) = !(adj l i j == ap)) := Lib.hid rfl
                clear r1 r2
                go_wp2_with fail
                refine (Bit_any x i _).mono ?_
                rintro _ w' ⟨rfl, rfl⟩
                rw [R1.out]
                go_wp2_with fail
                refine (Bit_any x j _).mono ?_
                rintro _ w' ⟨rfl, rfl⟩
                rw [R2.out]
                go_wp2_with fail
                refine HN.out.mono ?_
                clear HN
                rintro _ w3 ⟨rfl, hb3⟩
                have HB3 := Lib.hid (HB.out.trans (hb3.mono hsz))
                have HK3 := Lib.hid (HK.out.below hb3 hltb)
                clear hb3
                go_wp2_with fail
                first
                  | (go_roundw
                     case rel => exact ⟨j + 1, by omega, by go_num, HB3.out, HK3.out, by rw [HS.out, R1.out, R2.out, R4.out, R3.out]; rfl⟩
                     case measure => simp [intOf]; omega)
                  | (go_ret
                     exact ⟨ret_bool (HF.out (by rw [R1.out, R2.out, R4.out, R3.out]; rfl)).symm, HB3.out⟩)
        · obtain rfl : j = i := by omega
          have HS : Hid (((List.range (j + 1)).all fun i => (List.range i).all fun k => !(bitB x i && bitB x k && !(adj l i k != ap))) = true) := Lib.hid (by rw [List.range_succ, List.all_append, HA.out]; simpa using hall)
          clear hb hblk hall
          go_wp2_with fail
          go_roundw
          case rel => exact ⟨j + 1, by omega, by go_num, HB.out, HK.out, HS.out⟩
          case measure => simp [intOf]; omega
    · obtain rfl : i = m := by omega
      go_wp2_with fail
      go_ret
      exact ⟨ret_bool (by rw [HTG.out, HA.out]), HB.out⟩

set_option maxRecDepth 100000 in
set_option maxHeartbeats 1000000 in
theorem ref_Crowd (m : Nat) (ap : Bool) (A : Option Addr) (n c : Nat) (l : List Ed) (w : World) (hl : l.length = n) (hg : GoodG m l) (hr : Els w w.heap.size 3 Ed.cells A l) :
    Calls Try.prog 7 #[.agg #[.int .i64 m, .slice A n c], .bool ap] w fun e w' => e = .returned (.int .u32 (wN (largestTo (fun i j => adj l i j != ap) m (2 ^ m)))) ∧ Below w.heap.size w w' := by
  have hm := hg.n10
  have HL := Lib.hid hl
  have HG := Lib.hid hg
  have HR := Lib.hid hr
  have hB0 := Blk.new w 24 #[.int .i64 m, .slice A n c]
  have HB0 := Lib.hid ((Below.refl w.heap.size w).alloc (Nat.le_refl _) (.cells #[.int .i64 m, .slice A n c] 24))
  have HK0 := Lib.hid hB0
  have c0 := hB0.cell 0
  have hP1 := pow_le_1024 hm
  obtain ⟨rel, hrel0⟩ : ∃ rel : Nat → Nat → Bool, rel = fun i j => adj l i j != ap := ⟨_, rfl⟩
  have HREL := Lib.hid hrel0
  obtain ⟨P, hP⟩ : ∃ P, P = 2 ^ m := ⟨_, rfl⟩
  have HP := Lib.hid hP
  have HLIM : Hid (wN (wShl w1 m) = (P : Int)) := by
    show wN (wShl w1 m) = (P : Int)
    rw [wN_pow (by omega), hP]
  rw [← hP] at hP1 ⊢
  rw [← hrel0]
  clear hl hg hr hB0 hP hrel0
  go_enter Try.func7, Try.ntmps7
  go_wp2_with fail
  go_loopw [6, 5] (fun i s wr => ∃ k : Nat, k ≤ P ∧ i = .int .u32 (wN (nw k)) ∧ s = .int .u32 (wN (largestTo rel m k)) ∧ Below w.heap.size w wr ∧ Blk wr w.heap.size 24 #[.int .i64 m, .slice A n c]) (fun i _ _ => P - (intOf i).toNat)
  case atStart => exact ⟨0, by omega, rfl, rfl, HB0.out, HK0.out⟩
  case round =>
    clear c0 HK0 HB0
    rename World => wr
    obtain ⟨k, hk, rfl, rfl, hb, hblk⟩ := hrel
    have hsz := hb.size
    have hlt1 := hblk.lt
    have c0 := hblk.cell 0
    have c1 := hblk.cell 1
    have HB := Lib.hid hb
    have HK := Lib.hid hblk
    have hkw := wN_nw (k := k) (by omega)
    have hkw1 := wN_nw (k := k + 1) (by omega)
    have HKW := Lib.hid hkw
    have HKW1 := Lib.hid hkw1
    have HSU := Lib.hid (nw_succ k)
    clear hb hblk
    by_cases hlt : k < P
    · have hlt' : wN (nw k) < wN (wShl w1 m) := by rw [hkw, HLIM.out]; omega
      have HSK1 := Lib.hid (@largest_skip1 rel m k)
      have HSK2 := Lib.hid (@largest_skip2 rel m k)
      have HTK := Lib.hid (@largest_take rel m k)
      obtain ⟨x, hx⟩ : ∃ x, x = nw k := ⟨_, rfl⟩
      obtain ⟨y, hy⟩ : ∃ y, y = largestTo rel m k := ⟨_, rfl⟩
      rw [← hx] at hlt' ⊢
      rw [← hy]
      have HX := Lib.hid hx
      have HY := Lib.hid hy
      have p1 := pop_le x
      have p2 := pop_le y
      obtain ⟨px, hpx⟩ : ∃ p, p = pop x := ⟨_, rfl⟩
      obtain ⟨py, hpy⟩ : ∃ p, p = pop y := ⟨_, rfl⟩
      rw [← hpx] at p1
      rw [← hpy] at p2
      have HPX := Lib.hid hpx
      have HPY := Lib.hid hpy
      clear hx hy hpx hpy hkw hkw1
      go_wp2_with fail
      refine (Size_any _ _).mono ?_
      rintro e w' ⟨rfl, rfl⟩
      rw [← HPX.out]
      go_wp2_with fail
      refine (Size_any _ _).mono ?_
      rintro e w' ⟨rfl, rfl⟩
      rw [← HPY.out]
      by_cases hp : py < px
      · have hc := ref_Crowded m x ap A n c l wr HL.out HG.out ((HR.out.below HB.out).more hsz)
        rw [← HREL.out] at hc
        have HC := Lib.hid hc
        clear hc
        rcases hcv : together rel m x with _ | _
        · have HCV := Lib.hid hcv
          clear hcv
          go_wp2_with fail
          refine HC.out.mono ?_
          rintro e w' ⟨rfl, hb2⟩
          rw [HCV.out]
          have HB2 := Lib.hid (HB.out.trans (hb2.mono hsz))
          have HK2 := Lib.hid (HK.out.below hb2 hlt1)
          clear hb2
          go_wp2_with fail
          go_roundw
          case rel => exact ⟨k + 1, by omega, by rw [HX.out, HSU.out], by rw [HSK2.out (by rw [← HX.out]; exact HCV.out), ← HY.out], HB2.out, HK2.out⟩
          case measure => rw [HX.out, HSU.out]; simp [intOf]; rw [HKW.out, HKW1.out]; omega
        · have HCV := Lib.hid hcv
          clear hcv
          go_wp2_with fail
          refine HC.out.mono ?_
          rintro e w' ⟨rfl, hb2⟩
          rw [HCV.out]
          have HB2 := Lib.hid (HB.out.trans (hb2.mono hsz))
          have HK2 := Lib.hid (HK.out.below hb2 hlt1)
          clear hb2
          go_wp2_with fail
          go_roundw
          case rel => exact ⟨k + 1, by omega, by rw [HX.out, HSU.out], by rw [HTK.out (by rw [← HX.out, ← HY.out, ← HPX.out, ← HPY.out]; exact hp) (by rw [← HX.out]; exact HCV.out), ← HX.out], HB2.out, HK2.out⟩
          case measure => rw [HX.out, HSU.out]; simp [intOf]; rw [HKW.out, HKW1.out]; omega
      · go_wp2_with fail
        go_roundw
        case rel => exact ⟨k + 1, by omega, by rw [HX.out, HSU.out], by rw [HSK1.out (by rw [← HX.out, ← HY.out, ← HPX.out, ← HPY.out]; exact hp), ← HY.out], HB.out, HK.out⟩
        case measure => rw [HX.out, HSU.out]; simp [intOf]; rw [HKW.out, HKW1.out]; omega
    · obtain rfl : k = P := by omega
      have hge : ¬ wN (nw k) < wN (wShl w1 m) := by rw [hkw, HLIM.out]; omega
      obtain ⟨y, hy⟩ : ∃ y, y = largestTo rel m k := ⟨_, rfl⟩
      rw [← hy]
      have HY := Lib.hid hy
      clear hkw hkw1 hy
      go_wp2_with fail
      go_ret
      exact ⟨ret_u32 (by rw [HY.out]), HB.out⟩

set_option maxRecDepth 100000 in
set_option maxHeartbeats 1000000 in
theorem crowd_Most (N : Int) (A : Option Addr) (n c : Nat) (l : List Ed) (w : World) (hl : l.length = n) (hn : n ≤ maxLen) (hr : Els w w.heap.size 3 Ed.cells A l) :
    Calls Try.prog 5 #[.agg #[.int .i64 N, .slice A n c]] w fun e w' => ∃ r, e = .returned (.tuple #[.int .u32 (wN r), .int .i64 (graphCheck N l)]) ∧ Below w.heap.size w w' ∧
      (graphCheck N l ≠ 0 → r = w0) ∧ (graphCheck N l = 0 → ∃ m : Nat, N = m ∧ r = largestTo (fun i j => adj l i j != false) m (2 ^ m)) := by
  have hb0 := (Below.refl w.heap.size w).alloc (Nat.le_refl _) (.cells #[.int .i64 N, .slice A n c] 24)
  have hB0 := Blk.new w 24 #[.int .i64 N, .slice A n c]
  have HW := Lib.hid (graph_Check N A n c l (w.alloc (.cells #[.int .i64 N, .slice A n c] 24)) hl hn ((hr.alloc (Nat.le_refl _) _).more (by rw [size_alloc']; omega)))
  have HL := Lib.hid hl
  have HR := Lib.hid hr
  have HB0 := Lib.hid hb0
  have HK0 := Lib.hid hB0
  have c0 := hB0.cell 0
  have c1 := hB0.cell 1
  clear hr hb0 hB0 hl
  go_enter Try.func5, Try.ntmps5
  go_wp2_with fail
  refine HW.out.mono ?_
  clear HW
  rintro e v1 ⟨rfl, hb1⟩
  have hk1 := HK0.out.below hb1 (by rw [size_alloc']; omega)
  have hb1' := HB0.out.trans (hb1.mono (by rw [size_alloc']; omega))
  have hz1 := hb1'.size
  have HB1 := Lib.hid hb1'
  clear c0 c1 hb1 hb1'
  have c0 := hk1.cell 0
  have c1 := hk1.cell 1
  clear hk1
  by_cases h0 : graphCheck N l = 0
  · obtain ⟨m, rfl, hg⟩ := graph_good h0
    have HZ := Lib.hid h0
    have HG := Lib.hid hg
    have hm := hg.n10
    have HN := Lib.hid (graph_Near m A n c l v1 HL.out hg ((HR.out.below HB1.out).more hz1))
    rw [h0]
    clear h0 hg
    go_wp2_with fail
    refine HN.out.mono ?_
    clear HN
    rintro e v2 ⟨A1, rfl, hb2, hown2⟩
    have hb2' := HB1.out.trans (hb2.mono hz1)
    have hz2 := hb2'.size
    have HB2 := Lib.hid hb2'
    have HLG := Lib.hid (crowd_largest A1 m m (nearL m l) v2 (nearL_length m l) hm (hown2.els))
    clear c0 c1 hb2 hb2' hown2
    go_wp2_with fail
    refine HLG.out.mono ?_
    clear HLG
    rintro e v3 ⟨b, rfl, hb3, hf⟩
    have HB3 := Lib.hid (HB2.out.trans (hb3.mono hz2))
    have HF := Lib.hid (found_largest (rel := fun i j => adj l i j != false) (show m < 32 by omega) (fun i j hji hi => by rw [near_bit HG.out hi]; simp) hf)
    clear hb3 hf
    go_wp2_with fail
    refine bodyPost_ret (v := .tuple #[.int .u32 (wN b), .int .i64 0]) (by simp [results, Try.results5, go_sem]) rfl ?_
    exact ⟨b, by rw [HZ.out], HB3.out, fun h => absurd HZ.out h, fun _ => ⟨m, rfl, HF.out⟩⟩
  · have h1 : (graphCheck N l != 0) = true := by simpa using h0
    have H0 := Lib.hid h0
    obtain ⟨x, hx⟩ : ∃ x, x = graphCheck N l := ⟨_, rfl⟩
    rw [← hx] at h1 ⊢
    have HX := Lib.hid hx
    clear h0 hx
    go_wp2_with fail
    refine bodyPost_ret (v := .tuple #[.int .u32 0, .int .i64 x]) (by simp [results, Try.results5, go_sem]) rfl ?_
    exact ⟨w0, by rw [HX.out]; rfl, HB1.out, fun _ => rfl, fun h => absurd h H0.out⟩

set_option maxRecDepth 100000 in
set_option maxHeartbeats 1000000 in
theorem law_CrowdMost (N : Int) (A : Option Addr) (n c : Nat) (l : List Ed) (w : World) (hl : l.length = n) (hn : n ≤ maxLen) (hc : n ≤ c) (hr : Els w w.heap.size 3 Ed.cells A l) :
    Calls Try.prog 3 #[.agg #[.int .i64 N, .slice A n c]] w fun e w' => e = .returned (.bool true) ∧ Below w.heap.size w w' := by
  have hb0 := (Below.refl w.heap.size w).alloc (Nat.le_refl _) (.cells #[.int .i64 N, .slice A n c] 24)
  have hB0 := Blk.new w 24 #[.int .i64 N, .slice A n c]
  have HW := Lib.hid (crowd_Most N A n c l (w.alloc (.cells #[.int .i64 N, .slice A n c] 24)) hl hn ((hr.alloc (Nat.le_refl _) _).more (by rw [size_alloc']; omega)))
  have HL := Lib.hid hl
  have HR := Lib.hid hr
  have HM := Lib.hid hn
  have HC := Lib.hid hc
  have HB0 := Lib.hid hb0
  have HK0 := Lib.hid hB0
  have c0 := hB0.cell 0
  have c1 := hB0.cell 1
  clear hr hb0 hB0 hl hn hc
  go_enter Try.func3, Try.ntmps3
  go_wp2_with fail
  refine HW.out.mono ?_
  clear HW
  rintro e v1 ⟨r, rfl, hb1, hbad, hgood⟩
  have hk1 := HK0.out.below hb1 (by rw [size_alloc']; omega)
  have hb1' := HB0.out.trans (hb1.mono (by rw [size_alloc']; omega))
  have hz1 := hb1'.size
  have hlt1 := hk1.lt
  have HB1 := Lib.hid hb1'
  have HK1 := Lib.hid hk1
  have HBAD := Lib.hid hbad
  have HGOOD := Lib.hid hgood
  clear c0 c1 hb1 hb1' hbad hgood
  have c0 := hk1.cell 0
  have c1 := hk1.cell 1
  clear hk1
  have HGC := Lib.hid (ref_GraphCheck N A n c l v1 HL.out HM.out HC.out ((HR.out.below HB1.out).more hz1))
  go_wp2_with fail
  refine HGC.out.mono ?_
  clear HGC
  rintro e v2 ⟨rfl, hb2⟩
  have hk2 := HK1.out.below hb2 hlt1
  have hb2' := HB1.out.trans (hb2.mono hz1)
  have hz2 := hb2'.size
  have HB2 := Lib.hid hb2'
  clear c0 c1 hb2 hb2'
  by_cases h0 : graphCheck N l = 0
  · obtain ⟨m, rfl, rfl⟩ := HGOOD.out h0
    obtain ⟨m', hm', hg⟩ := graph_good h0
    obtain rfl : m = m' := by omega
    have HGD := Lib.hid (ref_Crowd m false A n c l v2 HL.out hg ((HR.out.below HB2.out).more hz2))
    rw [h0]
    have c0 := hk2.cell 0
    have c1 := hk2.cell 1
    have hbb : ∀ x : BitVec 32, (x == x) = true := fun x => by simp
    have HBB := Lib.hid (hbb (largestTo (fun i j => adj l i j != false) m (2 ^ m)))
    obtain ⟨y, hy⟩ : ∃ y, y = largestTo (fun i j => adj l i j != false) m (2 ^ m) := ⟨_, rfl⟩
    rw [← hy] at HGD HBB ⊢
    clear h0 hm' hg HBAD HGOOD hk2 hbb hy
    go_wp2_with fail
    refine HGD.out.mono ?_
    clear HGD
    rintro e v3 ⟨rfl, hb3⟩
    have HB3 := Lib.hid (HB2.out.trans (hb3.mono hz2))
    have hyy : (y == y) = true := HBB.out
    clear hb3
    go_wp2_with fail
    go_ret
    exact ⟨rfl, HB3.out⟩
  · have hr0 := HBAD.out h0
    subst hr0
    have h1 : (graphCheck N l != 0) = true := by simpa using h0
    have h2 : (graphCheck N l == graphCheck N l) = true := by simp
    have h3 : wN w0 = 0 := rfl
    rw [h3]
    clear HBAD HGOOD h3 hk2
    generalize graphCheck N l = x at h1 h2
    clear h0
    go_wp2_with fail
    go_ret
    exact ⟨rfl, HB2.out⟩
theorem CrowdMost_row (N : Int) (s : Sls (Int × Int × Int)) (w : World) (_hN : OkI N) (h : s.Good w w.heap.size 3 (fun p => [.int .i64 p.1, .int .i64 p.2.1, .int .i64 p.2.2]) (fun p => OkI p.1 ∧ OkI p.2.1 ∧ OkI p.2.2)) :
    Calls Try.prog 3 #[.agg #[.int .i64 N, s.val]] w fun e w' => e = .returned (.bool true) ∧ Below w.heap.size w w' :=
  law_CrowdMost N s.A s.l.length s.c (s.l.map Ed.of) w (by simp) h.1 h.2.1 (h.2.2.1.map_ Ed.of fun _ _ => rfl)

set_option maxRecDepth 100000 in
set_option maxHeartbeats 1000000 in
theorem crowd_Apart (N : Int) (A : Option Addr) (n c : Nat) (l : List Ed) (w : World) (hl : l.length = n) (hn : n ≤ maxLen) (hr : Els w w.heap.size 3 Ed.cells A l) :
    Calls Try.prog 8 #[.agg #[.int .i64 N, .slice A n c]] w fun e w' => ∃ r, e = .returned (.tuple #[.int .u32 (wN r), .int .i64 (graphCheck N l)]) ∧ Below w.heap.size w w' ∧
      (graphCheck N l ≠ 0 → r = w0) ∧ (graphCheck N l = 0 → ∃ m : Nat, N = m ∧ r = largestTo (fun i j => adj l i j != true) m (2 ^ m)) := by
  have hb0 := (Below.refl w.heap.size w).alloc (Nat.le_refl _) (.cells #[.int .i64 N, .slice A n c] 24)
  have hB0 := Blk.new w 24 #[.int .i64 N, .slice A n c]
  have HW := Lib.hid (graph_Check N A n c l (w.alloc (.cells #[.int .i64 N, .slice A n c] 24)) hl hn ((hr.alloc (Nat.le_refl _) _).more (by rw [size_alloc']; omega)))
  have HL := Lib.hid hl
  have HR := Lib.hid hr
  have HB0 := Lib.hid hb0
  have HK0 := Lib.hid hB0
  have c0 := hB0.cell 0
  have c1 := hB0.cell 1
  clear hr hb0 hB0 hl
  go_enter Try.func8, Try.ntmps8
  go_wp2_with fail
  refine HW.out.mono ?_
  clear HW
  rintro e v1 ⟨rfl, hb1⟩
  have hk1 := HK0.out.below hb1 (by rw [size_alloc']; omega)
  have hb1' := HB0.out.trans (hb1.mono (by rw [size_alloc']; omega))
  have hz1 := hb1'.size
  have HB1 := Lib.hid hb1'
  clear c0 c1 hb1 hb1'
  have c0 := hk1.cell 0
  have c1 := hk1.cell 1
  clear hk1
  by_cases h0 : graphCheck N l = 0
  · obtain ⟨m, rfl, hg⟩ := graph_good h0
    have HZ := Lib.hid h0
    have HG := Lib.hid hg
    have hm := hg.n10
    have HN := Lib.hid (crowd_others m A n c l v1 HL.out hg ((HR.out.below HB1.out).more hz1))
    rw [h0]
    clear h0 hg
    go_wp2_with fail
    refine HN.out.mono ?_
    clear HN
    rintro e v2 ⟨A1, rfl, hb2, hown2⟩
    have hb2' := HB1.out.trans (hb2.mono hz1)
    have hz2 := hb2'.size
    have HB2 := Lib.hid hb2'
    have HLG := Lib.hid (crowd_largest A1 m m (otherL m l) v2 (by unfold otherL; exact othF_length _ _ _) hm (hown2))
    clear c0 c1 hb2 hb2' hown2
    go_wp2_with fail
    refine HLG.out.mono ?_
    clear HLG
    rintro e v3 ⟨b, rfl, hb3, hf⟩
    have HB3 := Lib.hid (HB2.out.trans (hb3.mono hz2))
    have HF := Lib.hid (found_largest (rel := fun i j => adj l i j != true) (show m < 32 by omega) (fun i j hji hi => by rw [other_bit HG.out hji hi]; cases adj l i j <;> rfl) hf)
    clear hb3 hf
    go_wp2_with fail
    refine bodyPost_ret (v := .tuple #[.int .u32 (wN b), .int .i64 0]) (by simp [results, Try.results8, go_sem]) rfl ?_
    exact ⟨b, by rw [HZ.out], HB3.out, fun h => absurd HZ.out h, fun _ => ⟨m, rfl, HF.out⟩⟩
  · have h1 : (graphCheck N l != 0) = true := by simpa using h0
    have H0 := Lib.hid h0
    obtain ⟨x, hx⟩ : ∃ x, x = graphCheck N l := ⟨_, rfl⟩
    rw [← hx] at h1 ⊢
    have HX := Lib.hid hx
    clear h0 hx
    go_wp2_with fail
    refine bodyPost_ret (v := .tuple #[.int .u32 0, .int .i64 x]) (by simp [results, Try.results8, go_sem]) rfl ?_
    exact ⟨w0, by rw [HX.out]; rfl, HB1.out, fun _ => rfl, fun h => absurd h H0.out⟩

set_option maxRecDepth 100000 in
set_option maxHeartbeats 1000000 in
theorem law_CrowdAparts (N : Int) (A : Option Addr) (n c : Nat) (l : List Ed) (w : World) (hl : l.length = n) (hn : n ≤ maxLen) (hc : n ≤ c) (hr : Els w w.heap.size 3 Ed.cells A l) :
    Calls Try.prog 4 #[.agg #[.int .i64 N, .slice A n c]] w fun e w' => e = .returned (.bool true) ∧ Below w.heap.size w w' := by
  have hb0 := (Below.refl w.heap.size w).alloc (Nat.le_refl _) (.cells #[.int .i64 N, .slice A n c] 24)
  have hB0 := Blk.new w 24 #[.int .i64 N, .slice A n c]
  have HW := Lib.hid (crowd_Apart N A n c l (w.alloc (.cells #[.int .i64 N, .slice A n c] 24)) hl hn ((hr.alloc (Nat.le_refl _) _).more (by rw [size_alloc']; omega)))
  have HL := Lib.hid hl
  have HR := Lib.hid hr
  have HM := Lib.hid hn
  have HC := Lib.hid hc
  have HB0 := Lib.hid hb0
  have HK0 := Lib.hid hB0
  have c0 := hB0.cell 0
  have c1 := hB0.cell 1
  clear hr hb0 hB0 hl hn hc
  go_enter Try.func4, Try.ntmps4
  go_wp2_with fail
  refine HW.out.mono ?_
  clear HW
  rintro e v1 ⟨r, rfl, hb1, hbad, hgood⟩
  have hk1 := HK0.out.below hb1 (by rw [size_alloc']; omega)
  have hb1' := HB0.out.trans (hb1.mono (by rw [size_alloc']; omega))
  have hz1 := hb1'.size
  have hlt1 := hk1.lt
  have HB1 := Lib.hid hb1'
  have HK1 := Lib.hid hk1
  have HBAD := Lib.hid hbad
  have HGOOD := Lib.hid hgood
  clear c0 c1 hb1 hb1' hbad hgood
  have c0 := hk1.cell 0
  have c1 := hk1.cell 1
  clear hk1
  have HGC := Lib.hid (ref_GraphCheck N A n c l v1 HL.out HM.out HC.out ((HR.out.below HB1.out).more hz1))
  go_wp2_with fail
  refine HGC.out.mono ?_
  clear HGC
  rintro e v2 ⟨rfl, hb2⟩
  have hk2 := HK1.out.below hb2 hlt1
  have hb2' := HB1.out.trans (hb2.mono hz1)
  have hz2 := hb2'.size
  have HB2 := Lib.hid hb2'
  clear c0 c1 hb2 hb2'
  by_cases h0 : graphCheck N l = 0
  · obtain ⟨m, rfl, rfl⟩ := HGOOD.out h0
    obtain ⟨m', hm', hg⟩ := graph_good h0
    obtain rfl : m = m' := by omega
    have HGD := Lib.hid (ref_Crowd m true A n c l v2 HL.out hg ((HR.out.below HB2.out).more hz2))
    rw [h0]
    have c0 := hk2.cell 0
    have c1 := hk2.cell 1
    have hbb : ∀ x : BitVec 32, (x == x) = true := fun x => by simp
    have HBB := Lib.hid (hbb (largestTo (fun i j => adj l i j != true) m (2 ^ m)))
    obtain ⟨y, hy⟩ : ∃ y, y = largestTo (fun i j => adj l i j != true) m (2 ^ m) := ⟨_, rfl⟩
    rw [← hy] at HGD HBB ⊢
    clear h0 hm' hg HBAD HGOOD hk2 hbb hy
    go_wp2_with fail
    refine HGD.out.mono ?_
    clear HGD
    rintro e v3 ⟨rfl, hb3⟩
    have HB3 := Lib.hid (HB2.out.trans (hb3.mono hz2))
    have hyy : (y == y) = true := HBB.out
    clear hb3
    go_wp2_with fail
    go_ret
    exact ⟨rfl, HB3.out⟩
  · have hr0 := HBAD.out h0
    subst hr0
    have h1 : (graphCheck N l != 0) = true := by simpa using h0
    have h2 : (graphCheck N l == graphCheck N l) = true := by simp
    have h3 : wN w0 = 0 := rfl
    rw [h3]
    clear HBAD HGOOD h3 hk2
    generalize graphCheck N l = x at h1 h2
    clear h0
    go_wp2_with fail
    go_ret
    exact ⟨rfl, HB2.out⟩
theorem CrowdAparts_row (N : Int) (s : Sls (Int × Int × Int)) (w : World) (_hN : OkI N) (h : s.Good w w.heap.size 3 (fun p => [.int .i64 p.1, .int .i64 p.2.1, .int .i64 p.2.2]) (fun p => OkI p.1 ∧ OkI p.2.1 ∧ OkI p.2.2)) :
    Calls Try.prog 4 #[.agg #[.int .i64 N, s.val]] w fun e w' => e = .returned (.bool true) ∧ Below w.heap.size w w' :=
  law_CrowdAparts N s.A s.l.length s.c (s.l.map Ed.of) w (by simp) h.1 h.2.1 (h.2.2.1.map_ Ed.of fun _ _ => rfl)
end Go.Proofs.Ythopiaggnbkjbaa
