/- The program's search for the largest set of which each two are together. Conditions: the words read as a list. -/
import Derived.Test.YthopiaggnbkjbaaLen
import Derived.Test.YthopiaggnbkjbaaNear
import Derived.Test.YthopiaggnbkjbaaGraphB
import Derived.Test.YthopiaggnbkjbaaOpen
import Derived.StillTailTactics
namespace Go.Proofs.Ythopiaggnbkjbaa
open Go.RowKit
attribute [local go_sem ↓] w_and w_or w_xor w_andNot w_and1 w_and255 w_xor1 w_or0 w_shl w_shl1 w_shr w_sub w_add w_sub1 w_add1
attribute [local go_sem] w_eq0 w_ne0 w_eq1 w_eq w_ne

def SeekE (A : Option Addr) (n c X : Nat) (t : List (BitVec 32)) (now may b0 : BitVec 32) (w : World) : Prop :=
  Calls Try.prog 16 #[.pointer (some ⟨X, 0, none⟩), .int .u32 (wN now), .int .u32 (wN may)] w fun e w' => (∃ v, e = .returned v) ∧ ∃ b, Found t now may b0 b ∧ Below X w w' ∧ Blk w' X 46 #[.slice A n c, .int .u32 (wN b)]

set_option maxRecDepth 100000 in
theorem seek_cut (A : Option Addr) (n c X : Nat) (t : List (BitVec 32)) (now may b0 : BitVec 32) (w : World) (hb : Blk w X 46 #[.slice A n c, .int .u32 (wN b0)]) (hp : pop (wOr now may) < pop b0) : SeekE A n c X t now may b0 w := by
  have hf := found_cut (t := t) hp
  have HF := Lib.hid hf
  have c1 := hb.cell 1
  have HB := Lib.hid hb
  have q1 := pop_le (wOr now may)
  have q2 := pop_le b0
  clear hf hb
  unfold SeekE
  go_enter Try.func16, Try.ntmps16
  go_wp2_with fail
  go_quiet ((go_at_call 19; exact quietN (OnesCount32_any _ _)))
  go_wp2_with fail
  refine bodyPost_ret (results_none rfl _ _ _) rfl ?_
  exact ⟨⟨_, rfl⟩, b0, HF.out, below_drewN (Below.refl _ _) _, HB.out⟩
set_option maxRecDepth 100000 in
theorem seek_leaf (A : Option Addr) (n c X : Nat) (t : List (BitVec 32)) (now may b0 : BitVec 32) (w : World) (hm : may = w0) (ho : Open t now may) (hb : Blk w X 46 #[.slice A n c, .int .u32 (wN b0)]) (hp : ¬ pop (wOr now may) < pop b0) : SeekE A n c X t now may b0 w := by
  have c1 := hb.cell 1
  have f1 : w.frozen? ⟨X, 1, none⟩ = false := hb.frozen 1
  have HB := Lib.hid hb
  have HT : Hid (Better now b0 → Found t now may b0 now) := Lib.hid (by subst hm; exact found_leaf ho)
  have HN : Hid (¬ Better now b0 → Found t now may b0 b0) := Lib.hid (by subst hm; exact found_same)
  have hbd : Better now b0 ↔ (pop b0 < pop now ∨ (pop b0 = pop now ∧ wN now < wN b0)) := Iff.rfl
  have q1 := pop_le now
  have q2 := pop_le b0
  have q3 := pop_le (wOr now may)
  have hw0 : (may == w0) = true := by rw [hm]; simp
  have HBD := Lib.hid hbd
  clear hb ho hbd hm
  unfold SeekE
  by_cases h1 : pop b0 < pop now
  · have H1 := Lib.hid (HT.out (HBD.out.2 (.inl h1)))
    clear HT HN HBD
    go_enter Try.func16, Try.ntmps16
    go_wp2_with fail
    go_quiet ((go_at_call 19; exact quietN (OnesCount32_any _ _)))
    go_wp2_with fail
    go_quiet ((go_at_call 19; first | exact quietAN (OnesCount32_any _ _) | exact quietN (OnesCount32_any _ _)))
    go_wp2_with fail
    refine bodyPost_ret (results_none rfl _ _ _) rfl ?_
    exact ⟨⟨_, rfl⟩, now, H1.out, (below_drewN (Below.refl _ _) _).setCell (p := ⟨X, 1, none⟩) (Nat.le_refl _) _, by simpa using (HB.out.drewN _).put 1 (.int .u32 (wN now))⟩
  · by_cases h2 : pop now = pop b0
    · have h2' : (((pop now : Int)) == (pop b0 : Int)) = true := by rw [h2]; simp
      by_cases h3 : wN now < wN b0
      · have H1 := Lib.hid (HT.out (HBD.out.2 (.inr ⟨h2.symm, h3⟩)))
        clear HT HN HBD h2
        go_enter Try.func16, Try.ntmps16
        go_wp2_with fail
        go_quiet ((go_at_call 19; exact quietN (OnesCount32_any _ _)))
        go_wp2_with fail
        go_quiet ((go_at_call 19; first | exact quietAN (OnesCount32_any _ _) | exact quietN (OnesCount32_any _ _)))
        go_wp2_with fail
        refine bodyPost_ret (results_none rfl _ _ _) rfl ?_
        exact ⟨⟨_, rfl⟩, now, H1.out, (below_drewN (Below.refl _ _) _).setCell (p := ⟨X, 1, none⟩) (Nat.le_refl _) _, by simpa using (HB.out.drewN _).put 1 (.int .u32 (wN now))⟩
      · have H1 := Lib.hid (HN.out (fun h => by have := HBD.out.1 h; omega))
        clear HT HN HBD h2
        go_enter Try.func16, Try.ntmps16
        go_wp2_with fail
        go_quiet ((go_at_call 19; exact quietN (OnesCount32_any _ _)))
        go_wp2_with fail
        go_quiet ((go_at_call 19; first | exact quietAN (OnesCount32_any _ _) | exact quietN (OnesCount32_any _ _)))
        go_wp2_with fail
        refine bodyPost_ret (results_none rfl _ _ _) rfl ?_
        exact ⟨⟨_, rfl⟩, b0, H1.out, below_drewN (Below.refl _ _) _, HB.out⟩
    · have h2' : (((pop now : Int)) == (pop b0 : Int)) = false := by simp; omega
      have H1 := Lib.hid (HN.out (fun h => by have := HBD.out.1 h; omega))
      clear HT HN HBD h2
      go_enter Try.func16, Try.ntmps16
      go_wp2_with fail
      go_quiet ((go_at_call 19; exact quietN (OnesCount32_any _ _)))
      go_wp2_with fail
      go_quiet ((go_at_call 19; first | exact quietAN (OnesCount32_any _ _) | exact quietN (OnesCount32_any _ _)))
      go_wp2_with fail
      refine bodyPost_ret (results_none rfl _ _ _) rfl ?_
      exact ⟨⟨_, rfl⟩, b0, H1.out, below_drewN (Below.refl _ _) _, HB.out⟩

set_option maxRecDepth 100000 in
set_option maxHeartbeats 1000000 in
theorem crowd_seek (A : Option Addr) (n c X : Nat) (t : List (BitVec 32)) (ht : t.length = n) (hn : n ≤ 10) : ∀ (m : Nat) (now may b0 : BitVec 32) (w : World), m ≤ n → (∀ j, may.getLsbD j = true → j < m) → Open t now may →
    Els w X 1 wcell A t → Blk w X 46 #[.slice A n c, .int .u32 (wN b0)] → SeekE A n c X t now may b0 w := by
  intro m
  induction m with
  | zero =>
    intro now may b0 w hm hbits ho hr hb
    have h0 : may = w0 := w_ext fun j _ => by
      rw [b_0]
      cases hj : may.getLsbD j with
      | false => rfl
      | true => have := hbits j hj; omega
    by_cases hp : pop (wOr now may) < pop b0
    · exact seek_cut A n c X t now may b0 w hb hp
    · exact seek_leaf A n c X t now may b0 w h0 ho hb hp
  | succ m ih =>
    intro now may b0 w hm hbits ho hr hb
    by_cases hp : pop (wOr now may) < pop b0
    · exact seek_cut A n c X t now may b0 w hb hp
    · by_cases h0 : may = w0
      · exact seek_leaf A n c X t now may b0 w h0 ho hb hp
      · obtain ⟨i, hbl, hi32, hbit, htop⟩ := bl_top h0
        have him := hbits i hbit
        have hq1 := fun b1 w' => ih now (without may i) b1 w' (by omega) (fun j hj => by
          rw [without_bit may hi32] at hj
          simp only [Bool.and_eq_true, Bool.not_eq_true', decide_eq_false_iff_not] at hj
          have := htop j hj.1
          omega) (open_skip hi32 ho)
        have hq2 := fun b1 w' => ih (wOr now (wShl w1 i)) (wAnd (without may i) (lw t i)) b1 w' (by omega) (fun j hj => by
          rw [b_and, without_bit may hi32] at hj
          simp only [Bool.and_eq_true, Bool.not_eq_true', decide_eq_false_iff_not] at hj
          have := htop j hj.1.1
          omega) (open_take hi32 hbit htop ho)
        have HQ1 := Lib.hid hq1
        have HQ2 := Lib.hid hq2
        have HJ : Hid (∀ b1 b2, Found t now (without may i) b0 b1 → Found t (wOr now (wShl w1 i)) (wAnd (without may i) (lw t i)) b1 b2 → Found t now may b0 b2) := Lib.hid (fun _ _ => found_join hi32 hbit htop)
        have HBL := Lib.hid hbl
        have HR := Lib.hid hr
        have HB := Lib.hid hb
        have hin : i < t.length := by omega
        have q1 := pop_le (wOr now may)
        have q2 := pop_le b0
        have hw0 : (may == w0) = false := by simpa using h0
        have c1 := hb.cell 1
        clear hq1 hq2 hbl hr hb ih ho hbits htop hbit h0
        unfold SeekE
        go_enter Try.func16, Try.ntmps16
        go_wp2_with fail
        go_quiet ((go_at_call 19; exact quietN (OnesCount32_any _ _)))
        go_wp2_with fail
        refine (Len32_any _ _).mono ?_
        rintro e w' ⟨rfl, rfl⟩
        rw [HBL.out]
        have hsub : ((i + 1 : Nat) : Int) - 1 = (i : Int) := by omega
        go_wp2_with fail
        refine (HQ1.out b0 _ (HR.out.drewN _) (HB.out.drewN _)).mono ?_
        clear HQ1 c1
        rintro e w1 ⟨⟨v, rfl⟩, b1, hf1, hb1, hk1⟩
        have HF1 := Lib.hid hf1
        have HB1 := Lib.hid ((below_drewN (Below.refl X w) _).trans hb1)
        have HK1 := Lib.hid hk1
        have c0 := hk1.cell 0
        obtain ⟨b, off, rfl, hbb, g0⟩ := (HR.out.below HB1.out).at1 (f := fun x => .int .u32 (wN x)) hin
        rw [← lw_at t i hin] at g0
        have HRR := Lib.hid (HR.out.below HB1.out)
        clear hf1 hb1 hk1 HR HB
        go_wp2_with fail
        have hin2 : i < n := by omega
        go_still_tail 14, (by kernel_rfl)
        change wpList _ _ _ _ _ w1.drew
        have HC := Lib.hid (HQ2.out b1 w1.drew (HRR.out.drew) HK1.out.drew)
        go_wp2_with fail
        refine HC.out.mono ?_
        rintro e w2 ⟨⟨v2, rfl⟩, b2, hf2, hb2, hk2⟩
        have HF2 := Lib.hid (HJ.out _ _ HF1.out hf2)
        have HB2 := Lib.hid (HB1.out.drew.trans hb2)
        have HK2 := Lib.hid hk2
        clear hf2 hb2 hk2
        go_wp2_with fail
        go_end0
        exact ⟨⟨_, rfl⟩, b2, HF2.out, HB2.out, HK2.out⟩
end Go.Proofs.Ythopiaggnbkjbaa
