/- The law BeatsKings: both tell the same kings; the statement's walk. Conditions: the words read as a list; the table. -/
import Derived.Test.YthopiaggnbkjbaaDoorKingsA
import Derived.Test.YthopiaggnbkjbaaDoorKingsB
import Derived.Test.YthopiaggnbkjbaaDoorBeatsP
import Derived.Test.YthopiaggnbkjbaaDoorOpen
namespace Go.Proofs.YthopiaggnbkjbaaDoor
open Go.RowKit
attribute [local go_sem ↓] w_and w_or w_xor w_andNot w_and1 w_and255 w_xor1 w_or0 w_shl w_shl1 w_shr w_sub w_add w_sub1 w_add1
attribute [local go_sem] w_eq0 w_ne0 w_eq1 w_eq w_ne

theorem orAll_bit (l : List W) (b : Nat) : ∀ (js : List Nat) (x : W), (orAll l x js).getLsbD b = (x.getLsbD b || js.any fun j => (lw l j).getLsbD b)
  | [], x => by simp [orAll]
  | j :: js, x => by
    show (orAll l (wOr x (lw l j)) js).getLsbD b = _
    rw [orAll_bit l b js, b_or, List.any_cons, Bool.or_assoc]
theorem check_ok {l : List W} (h : beatsCheck l = 0) : l.length ≤ 8 ∧ ∀ i j, l.length ≤ j → (lw l i).getLsbD j = false := by
  unfold beatsCheck at h
  by_cases h8 : 8 < l.length
  · rw [if_pos h8] at h; cases h
  · rw [if_neg h8] at h
    by_cases hw : l.any (wide l.length) = true
    · rw [if_pos hw] at h; cases h
    · refine ⟨by omega, fun i j hj => ?_⟩
      by_cases hi : i < l.length
      · have h1 := List.any_eq_false.1 (by simpa using hw) (l[i]) (List.getElem_mem hi)
        unfold wide at h1
        rw [shr_zero_iff] at h1
        rw [lw_at l i hi]
        exact bit_lt (n := l.length) (by simpa using h1) hj
      · have : lw l i = w0 := by
          unfold lw
          simp [List.getD_eq_getElem?_getD, List.getElem?_eq_none (show l.length ≤ i by omega)]
        rw [this, b_0]
theorem overTo_iff (l : List W) (i j : Nat) : ∀ p, overTo l i j p = true ↔ i = j ∨ (lw l i).getLsbD j = true ∨ ∃ q, q < p ∧ (lw l i).getLsbD q = true ∧ (lw l q).getLsbD j = true
  | 0 => by simp [overTo, bitB_nat]
  | p + 1 => by
    show (overTo l i j p || (bitB (lw l i) p && bitB (lw l p) j)) = true ↔ _
    rw [bitB_nat, bitB_nat, Bool.or_eq_true, Bool.and_eq_true, overTo_iff l i j p]
    constructor
    · rintro ((h | h | ⟨q, hq, h⟩) | h)
      · exact .inl h
      · exact .inr (.inl h)
      · exact .inr (.inr ⟨q, by omega, h⟩)
      · exact .inr (.inr ⟨p, by omega, h⟩)
    · rintro (h | h | ⟨q, hq, h⟩)
      · exact .inl (.inl h)
      · exact .inl (.inr (.inl h))
      · by_cases hqp : q = p
        · subst hqp; exact .inr h
        · exact .inl (.inr (.inr ⟨q, by omega, h⟩))
theorem kingB_iff (l : List W) (i : Nat) : ∀ m, kingB l i m = true ↔ ∀ j, j < m → overTo l i j l.length = true
  | 0 => by simp [kingB]
  | m + 1 => by
    show (kingB l i m && overTo l i m l.length) = true ↔ _
    rw [Bool.and_eq_true, kingB_iff l i m]
    constructor
    · rintro ⟨h1, h2⟩ j hj
      by_cases hjm : j = m
      · subst hjm; exact h2
      · exact h1 j (by omega)
    · exact fun h => ⟨fun j hj => h j (by omega), h m (by omega)⟩
theorem king_same {l : List W} (h : beatsCheck l = 0) {i : Nat} (hi : i < l.length) : (kingAll l i = maskW l.length) ↔ kingB l i l.length = true := by
  obtain ⟨h8, hlow⟩ := check_ok h
  rw [kingB_iff]
  have key : ∀ b, (kingAll l i).getLsbD b = true ↔ (b < 32 ∧ b = i) ∨ (lw l i).getLsbD b = true ∨ ∃ q, (lw l i).getLsbD q = true ∧ (lw l q).getLsbD b = true := fun b => by
    unfold kingAll
    rw [orAll_bit, b_or, b_one, Bool.or_eq_true, Bool.or_eq_true, Bool.and_eq_true, decide_eq_true_iff, decide_eq_true_iff, List.any_eq_true]
    constructor
    · rintro ((h | h) | ⟨q, hq, h⟩)
      · exact .inr (.inl h)
      · exact .inl h
      · exact .inr (.inr ⟨q, mem_bitsL.1 hq, h⟩)
    · rintro (h | h | ⟨q, hq, h⟩)
      · exact .inl (.inr h)
      · exact .inl (.inl h)
      · exact .inr ⟨q, mem_bitsL.2 hq, h⟩
  constructor
  · intro he j hj
    have hb : (kingAll l i).getLsbD j = true := by rw [he, b_mask (by omega)]; simp [hj]
    rw [overTo_iff]
    rcases (key j).1 hb with ⟨_, h⟩ | h | ⟨q, hq, h⟩
    · exact .inl h.symm
    · exact .inr (.inl h)
    · refine .inr (.inr ⟨q, ?_, hq, h⟩)
      rcases Nat.lt_or_ge q l.length with hlt | hge
      · exact hlt
      · rw [hlow i q hge] at hq; cases hq
  · intro ho
    refine w_ext fun b hb => ?_
    rw [b_mask (by omega)]
    by_cases hbn : b < l.length
    · rw [show decide (b < l.length) = true from by simp [hbn], key]
      rcases (overTo_iff l i b l.length).1 (ho b hbn) with h | h | ⟨q, _, hq, h⟩
      · exact .inl ⟨hb, h.symm⟩
      · exact .inr (.inl h)
      · exact .inr (.inr ⟨q, hq, h⟩)
    · rw [show decide (b < l.length) = false from by simp [hbn], ← Bool.not_eq_true, key]
      rintro (⟨_, h⟩ | h | ⟨q, _, h⟩)
      · omega
      · rw [hlow i b (by omega)] at h; cases h
      · rw [hlow q b (by omega)] at h; cases h
theorem kings_low (l : List W) : ∀ k b, k ≤ b → (kingsTo l k).getLsbD b = false
  | 0, b, _ => b_0 b
  | k + 1, b, hb => by
    show (if kingAll l k = maskW l.length then wOr (kingsTo l k) (wShl w1 k) else kingsTo l k).getLsbD b = false
    have ih := kings_low l k b (by omega)
    split
    · rw [b_or, ih, b_one]
      have : ¬ b = k := by omega
      simp [this]
    · exact ih
theorem kings_same {l : List W} (h : beatsCheck l = 0) : ∀ k, k ≤ l.length → refKings l k = kingsTo l k
  | 0, _ => rfl
  | k + 1, hk => by
    show (if kingB l k l.length then wAdd (refKings l k) (wShl w1 k) else refKings l k) = (if kingAll l k = maskW l.length then wOr (kingsTo l k) (wShl w1 k) else kingsTo l k)
    rw [kings_same h k (by omega)]
    have hs := king_same h (show k < l.length by omega)
    by_cases hb : kingB l k l.length = true
    · rw [if_pos hb, if_pos (hs.2 hb)]
      refine w_ext fun b _ => ?_
      rw [b_add (kings_low l k k (Nat.le_refl _)), b_or]
    · rw [if_neg hb, if_neg (fun e => hb (hs.1 e))]

theorem law_BeatsKings (A : Option Addr) (n c : Nat) (l : List W) (w : World) (htab : TabOk w) (hl : l.length = n) (hn : n ≤ maxLen) (hr : Els w w.heap.size 1 wcell A l) :
    Calls Tryd.prog 3 #[.slice A n c] w fun e w' => e = .returned (.bool true) ∧ Below w.heap.size w w' := by
  have HL := Lib.hid hl
  have HM := Lib.hid hn
  have HBI := Lib.hid (fun i (hi : i < n) (h0 : beatsCheck l = 0) j (hj : j ∈ bitsL (lw l i)) => show j < n from by
    obtain ⟨_, hlow⟩ := check_ok h0
    rcases Nat.lt_or_ge j n with h | h
    · exact h
    · have := hlow i j (by omega)
      rw [mem_bitsL.1 hj] at this
      cases this)
  have HK := Lib.hid (beats_Kings A n c l w hl hn hr htab (Nat.lt_of_le_of_lt (Nat.zero_le _) htab.1) HBI.out)
  have HR := Lib.hid hr
  clear hl hn hr HBI htab
  by_cases h0 : beatsCheck l = 0
  · have HS := Lib.hid (kings_same h0 n (by rw [HL.out]; exact Nat.le_refl _))
    rw [if_pos h0] at HK
    rw [h0] at HK
    have H0 := Lib.hid h0
    clear h0
    go_enter Tryd.func3, Tryd.ntmps3
    go_wp2_with fail
    refine HK.out.mono ?_
    clear HK
    rintro e w1 ⟨rfl, hb1⟩
    have HB1 := Lib.hid hb1
    have hr1 := HR.out.below hb1
    have hsz := hb1.size
    clear hb1
    go_wp2_with fail
    refine (ref_BeatsCheck A n c l _ HL.out HM.out (hr1.more hsz)).mono ?_
    rintro e w' ⟨rfl, m2, rfl⟩
    rw [beats_same, H0.out]
    go_wp2_with fail
    refine (ref_Kings A n c l _ HL.out HM.out ((hr1.more hsz).drewN _)).mono ?_
    rintro e w' ⟨rfl, rfl⟩
    rw [HS.out]
    go_wp2_with fail
    go_ret
    exact ⟨rfl, below_drewN HB1.out _⟩
  · have hcf : (beatsCheck l != 0) = true := by simpa using h0
    rw [if_neg h0] at HK
    clear h0
    go_enter Tryd.func3, Tryd.ntmps3
    go_wp2_with fail
    refine HK.out.mono ?_
    clear HK
    rintro e w1 ⟨rfl, hb1⟩
    have HB1 := Lib.hid hb1
    have hr1 := HR.out.below hb1
    have hsz := hb1.size
    clear hb1
    go_wp2_with fail
    refine (ref_BeatsCheck A n c l _ HL.out HM.out (hr1.more hsz)).mono ?_
    rintro e w' ⟨rfl, m2, rfl⟩
    rw [beats_same]
    go_wp2_with fail
    go_ret
    exact ⟨rfl, below_drewN HB1.out _⟩
theorem BeatsKings_row (C : Sls Int) (W : World) (htab : TabOk W) (hC : C.Good W W.heap.size 1 (fun n : Int => [.int .u32 n]) OkU) :
    Calls Tryd.prog 3 #[C.val] W fun e w' => e = .returned (.bool true) ∧ Below W.heap.size W w' :=
  law_BeatsKings C.A C.l.length C.c (C.l.map wordOf) W htab (by simp) hC.1 (hC.2.2.1.map_ wordOf fun a ha => by rw [wcell, wN_wordOf (hC.2.2.2 a ha).1 (hC.2.2.2 a ha).2])
end Go.Proofs.YthopiaggnbkjbaaDoor
