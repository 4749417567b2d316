/- The law FeeAssigns: both tell the same. Conditions: the rows read as lists. -/
import Derived.Test.YtfaifadfilndmaaAsgB
import Derived.Test.YtfaifadfilndmaaEq
namespace Go.Proofs.Ytfaifadfilndmaa
open Go.RowKit

theorem asg_len {f : Nat → Nat → Int} {n : Nat} (h8 : n ≤ 8) (hf : ∀ i j, -1048576 ≤ f i j ∧ f i j ≤ 1048576) : ∀ (k : Nat) (l : List Nat), PathOk n l → l.length + k = n → (asgF f n k l).1.length = n := by
  intro k
  induction k with
  | zero => intro l _ h; exact h
  | succ k ih =>
    intro l hl hk
    obtain ⟨j, hj, hc, h1, _⟩ := asg_step h8 hf hl hk
    rw [h1]
    exact ih _ (hl.snoc hj hc) (by rw [List.length_append, List.length_singleton]; omega)

set_option maxRecDepth 100000 in
set_option maxHeartbeats 1000000 in
theorem law_FeeAssigns (ls : List (Sls Int)) (A : Option Addr) (n c : Nat) (w : World) (hl : ls.length = n) (hn : n ≤ maxLen) (hr : Els w w.heap.size 1 rcell A ls) (hg : ∀ s ∈ ls, s.Good w w.heap.size 1 icell OkI) :
    Calls Try.prog 3 #[.slice A n c] w fun e w' => e = .returned (.bool true) ∧ Below w.heap.size w w' := by
  have HQ := Lib.hid (fee_Assign ls A n c w hl hn hr hg)
  have HR := Lib.hid hr
  have HG := Lib.hid hg
  have HL := Lib.hid hl
  have HN := Lib.hid hn
  clear hr hg hl
  go_enter Try.func3, Try.ntmps3
  go_wp2_with fail
  refine HQ.out.mono ?_
  clear HQ
  rintro e w1 ⟨A1, k1, c1, x1, rfl, hb1, hbad, hgood⟩
  have hz1 := hb1.size
  have HB1 := Lib.hid hb1
  have HBAD := Lib.hid hbad
  have HGOOD := Lib.hid hgood
  have hg1 : ∀ s ∈ ls, s.Good w1 w1.heap.size 1 icell OkI := fun s hs =>
    ⟨(HG.out s hs).1, (HG.out s hs).2.1, ((HG.out s hs).2.2.1.below hb1).more hz1, (HG.out s hs).2.2.2⟩
  have HG1 := Lib.hid hg1
  have HC := Lib.hid (ref_FeesCheck ls A n c w1 HL.out HN.out ((HR.out.below hb1).more hz1) hg1)
  clear hb1 hbad hgood hg1
  obtain ⟨tc, htc⟩ : ∃ tc, tc = feesCheck ls := ⟨_, rfl⟩
  have HTC := Lib.hid htc
  rw [← htc] at HBAD HGOOD HC ⊢
  clear htc
  go_wp2_with fail
  refine HC.out.mono ?_
  clear HC
  rintro e w2 ⟨rfl, rfl⟩
  by_cases h0 : tc = 0
  · subst h0
    obtain ⟨h8, hwid, hbd⟩ := fees_ok HTC.out.symm
    rw [HL.out] at h8 hwid
    obtain ⟨hx, hk, hels⟩ := HGOOD.out rfl
    have HA := Lib.hid (ref_Assign ls A n c h8 hbd w1 ⟨(HR.out.below HB1.out).more hz1, fun s hs => (HG1.out s hs).2.2.1, HL.out, hwid⟩)
    have hlen : (asgF (gridF ls) n n []).1.length = n := asg_len h8 hbd n [] ⟨by simp, fun i hi => by cases hi⟩ (by simp)
    rw [hlen] at HA
    rw [hlen] at hk
    subst hk hx
    have HE := Lib.hid hels
    have HLEN := Lib.hid hlen
    obtain ⟨r, hr⟩ : ∃ r, r = asgF (gridF ls) k1 k1 [] := ⟨_, rfl⟩
    rw [← hr] at HA HE HLEN ⊢
    clear HBAD HGOOD hels hlen hwid hbd hr
    go_wp2_with fail
    refine HA.out.mono ?_
    clear HA
    rintro e w2 ⟨A2, k2, c2, rfl, hk2, hb2, ho2⟩
    subst hk2
    have HI := Lib.hid (Ints_same A1 A2 k2 c1 c2 (intsOf r.1) w1.heap.size w2.heap.size w2 (by rw [intsOf, List.length_map]; exact HLEN.out) (by unfold maxLen; omega) (HE.out.below hb2) ho2.els)
    have HB2 := Lib.hid (HB1.out.trans (hb2.mono hz1))
    clear hb2 ho2
    have hxx : (r.2 == r.2) = true := by simp
    go_wp2_with fail
    refine HI.out.mono ?_
    clear HI
    rintro e w3 ⟨rfl, q, rfl⟩
    go_wp2_with fail
    go_ret
    exact ⟨by simp, below_drewN HB2.out q⟩
  · obtain ⟨rfl, rfl⟩ := HBAD.out h0
    have h1 : (tc != 0) = true := by simpa using h0
    have h2 : (tc == tc) = true := by simp
    clear HBAD HGOOD h0 HTC
    go_wp2_with fail
    go_ret
    exact ⟨by simp, HB1.out⟩
theorem FeeAssigns_row (s : Sls (Sls Int)) (w : World) (h : s.Good w w.heap.size 1 (fun s : Sls Int => [s.val]) (Sls.Good w w.heap.size 1 (fun n : Int => [.int .i64 n]) OkI)) :
    Calls Try.prog 3 #[s.val] w fun e w' => e = .returned (.bool true) ∧ Below w.heap.size w w' :=
  law_FeeAssigns s.l s.A s.l.length s.c w rfl h.1 h.2.2.1 h.2.2.2
end Go.Proofs.Ytfaifadfilndmaa
