/- A queue's worth and its lateness: queue.Worth and queue.Late. Conditions: the jobs read so. -/
import Derived.Test.YtpinhmhempbmoaaQueA
import Derived.Test.YtpinhmhempbmoaaOrdV
namespace Go.Proofs.Ytpinhmhempbmoaa
open Go.RowKit Go.Shelf

/-- What queue.Worth or queue.Late answers. -/
def QueSaid (w w' : World) (n : Nat) (tc : Int) (wt : List Nat → Int) (e : Ending) : Prop :=
  if tc = 0 then ∃ (A' : Option Addr) (cap : Nat) (q : List Nat) (x : Int), e = .returned (.tuple #[.slice A' n cap, .int .i64 x, .int .i64 0]) ∧ bestF wt (permsF n n []) = some (q, x) ∧ Els w' w'.heap.size 1 icell A' (intsOf q)
  else e = .returned (.tuple #[.slice none 0 0, .int .i64 0, .int .i64 tc])
theorem latQ_ne {l : List Jb} {n : Nat} (h : 0 < n) : bestF (latE l) (permsF n n []) = bestF (latQ l) (permsF n n []) := by
  refine bestF_congr _ fun q hq => ?_
  have := (perms_ok (n := n) n [] (by simp) (by simp) q hq).1
  unfold latQ
  rw [if_neg (by omega)]

theorem W1_ent : Ent Try.prog 48 := ent_W1
theorem due_ent : Ent Try.prog 51 := ent_due
theorem W1_calls (j : Jb) (w : World) : Calls Try.prog 48 #[j.agg] w fun e w' => e = .returned (.int .i64 j.y) ∧ Below w.heap.size w w' := queue_W1 j w
theorem due_calls (j : Jb) (w : World) : Calls Try.prog 51 #[j.agg] w fun e w' => e = .returned (.int .i64 j.x) ∧ Below w.heap.size w w' := queue_due j w

set_option maxRecDepth 100000 in
set_option maxHeartbeats 1000000 in
theorem queue_Worth (n : Nat) (A : Option Addr) (ca : Nat) (l : List Jb) (w : World) (hA : Els w w.heap.size 4 Jb.cells A l) (hal : l.length = n) (hn : n ≤ maxLen) :
    Calls Try.prog 21 #[.slice A n ca] w fun e w' => Below w.heap.size w w' ∧ QueSaid w w' n (queCheck Jb.y l) (worE l) e := by
  obtain ⟨S, hS⟩ : ∃ S, S = w.heap.size := ⟨_, rfl⟩
  obtain ⟨W1, hW1⟩ : ∃ W1, W1 = w.alloc (.cells #[.slice A n ca] 22) := ⟨_, rfl⟩
  have b0 := Blk.new w 22 #[.slice A n ca]
  rw [← hS] at b0
  have hz1 : W1.heap.size = S + 1 := by rw [hW1, hS]; simp only [size_alloc']
  have hb1 : Below w.heap.size w W1 := by
    rw [hW1]
    exact (Below.refl _ w).alloc (Nat.le_refl _) _
  have hk0 : Blk W1 S 22 #[.slice A n ca] := by rw [hW1]; exact b0
  have HA := Lib.hid ((hA.below hb1).more (by omega : w.heap.size ≤ W1.heap.size))
  have c0 := hk0.cell 0
  have HK0 := Lib.hid hk0
  have HB1 := Lib.hid hb1
  have HAL := Lib.hid hal
  have HC := Lib.hid (queue_wrong 48 W1_ent Jb.y W1_calls n A ca l W1 hal hn HA.out)
  clear b0 hk0 hb1 hA hal
  have HWW := Lib.hid hW1
  have HSS := Lib.hid hS
  clear hW1 hS
  unfold maxLen at hn
  go_enter Try.func21, Try.ntmps21
  go_wp2_with fail
  rw [← HSS.out, ← HWW.out]
  refine HC.out.mono ?_
  clear HC
  rintro e w2 ⟨rfl, hb2⟩
  have HB2 := Lib.hid (HB1.out.trans (hb2.mono HB1.out.size))
  have c0 := (HK0.out.below hb2 HK0.out.lt).cell 0
  have HK0 := Lib.hid (HK0.out.below hb2 HK0.out.lt)
  have HA := Lib.hid ((HA.out.below hb2).more hb2.size)
  clear hb2
  obtain ⟨tc, htc⟩ : ∃ tc, tc = queCheck Jb.y l := ⟨_, rfl⟩
  rw [← htc]
  have HTC := Lib.hid htc
  by_cases h0 : tc = 0
  · subst h0
    obtain ⟨k7, hok⟩ := que_ok htc.symm
    have k7' : n ≤ 7 := by rw [← HAL.out]; exact k7
    clear htc k7
    have HQ := Lib.hid (queue_best n k7' 49 #[.pointer (some ⟨S, 0, none⟩)] (worE l) w2 ent_W2 (fun x L c v hxl hxb hbv hLv =>
      (queue_W2 n k7' x L A c ca S l v hxl hxb hLv (HK0.out.below hbv HK0.out.lt) ((HA.out.below hbv).more hbv.size) HAL.out hok).mono fun e w' ⟨he, hw⟩ => ⟨he, by subst hw; exact Below.refl _ _⟩))
    clear hok
    go_wp2_with fail
    refine HQ.out.mono ?_
    clear HQ
    rintro e w4 ⟨A', cap, q, x, rfl, hb4, hbf, hels⟩
    have HBF := Lib.hid hbf
    have HELS := Lib.hid hels
    have HB5 := Lib.hid (HB2.out.trans (hb4.mono HB2.out.size))
    clear hb4 hbf hels
    go_wp2_with fail
    refine bodyPost_ret (v := .tuple #[.slice A' n cap, .int .i64 x, .int .i64 0]) (by simp [results, Try.results21, go_sem]) rfl ⟨HB5.out, ?_⟩
    unfold QueSaid
    rw [← HTC.out]
    rw [if_pos rfl]
    exact ⟨A', cap, q, x, rfl, HBF.out, HELS.out⟩
  · have h1 : (tc == 0) = false := by simpa using h0
    have h2 : (tc != 0) = true := by simpa using h0
    have H0 := Lib.hid h0
    clear htc h0
    go_wp2_with fail
    refine bodyPost_ret (v := .tuple #[.slice none 0 0, .int .i64 0, .int .i64 tc]) (by simp [results, Try.results21, go_sem]) rfl ⟨HB2.out, ?_⟩
    unfold QueSaid
    rw [← HTC.out]
    rw [if_neg H0.out]

set_option maxRecDepth 100000 in
set_option maxHeartbeats 1000000 in
theorem queue_Late (n : Nat) (A : Option Addr) (ca : Nat) (l : List Jb) (w : World) (hA : Els w w.heap.size 4 Jb.cells A l) (hal : l.length = n) (hn : n ≤ maxLen) :
    Calls Try.prog 24 #[.slice A n ca] w fun e w' => Below w.heap.size w w' ∧ QueSaid w w' n (queCheck Jb.x l) (latQ l) e := by
  obtain ⟨S, hS⟩ : ∃ S, S = w.heap.size := ⟨_, rfl⟩
  obtain ⟨W1, hW1⟩ : ∃ W1, W1 = w.alloc (.cells #[.slice A n ca] 22) := ⟨_, rfl⟩
  have b0 := Blk.new w 22 #[.slice A n ca]
  rw [← hS] at b0
  have hz1 : W1.heap.size = S + 1 := by rw [hW1, hS]; simp only [size_alloc']
  have hb1 : Below w.heap.size w W1 := by
    rw [hW1]
    exact (Below.refl _ w).alloc (Nat.le_refl _) _
  have hk0 : Blk W1 S 22 #[.slice A n ca] := by rw [hW1]; exact b0
  have HA := Lib.hid ((hA.below hb1).more (by omega : w.heap.size ≤ W1.heap.size))
  have c0 := hk0.cell 0
  have HK0 := Lib.hid hk0
  have HB1 := Lib.hid hb1
  have HAL := Lib.hid hal
  have HC := Lib.hid (queue_wrong 51 due_ent Jb.x due_calls n A ca l W1 hal hn HA.out)
  clear b0 hk0 hb1 hA hal
  have HWW := Lib.hid hW1
  have HSS := Lib.hid hS
  clear hW1 hS
  unfold maxLen at hn
  go_enter Try.func24, Try.ntmps24
  go_wp2_with fail
  rw [← HSS.out, ← HWW.out]
  refine HC.out.mono ?_
  clear HC
  rintro e w2 ⟨rfl, hb2⟩
  have HB2 := Lib.hid (HB1.out.trans (hb2.mono HB1.out.size))
  have c0 := (HK0.out.below hb2 HK0.out.lt).cell 0
  have HK0 := Lib.hid (HK0.out.below hb2 HK0.out.lt)
  have HA := Lib.hid ((HA.out.below hb2).more hb2.size)
  clear hb2
  obtain ⟨tc, htc⟩ : ∃ tc, tc = queCheck Jb.x l := ⟨_, rfl⟩
  rw [← htc]
  have HTC := Lib.hid htc
  by_cases h0 : tc = 0
  · subst h0
    obtain ⟨k7, hok⟩ := que_ok htc.symm
    have k7' : n ≤ 7 := by rw [← HAL.out]; exact k7
    clear htc k7
    by_cases hz : n = 0
    · subst hz
      go_wp2_with fail
      refine bodyPost_ret (v := .tuple #[.slice none 0 0, .int .i64 0, .int .i64 0]) (by simp [results, Try.results24, go_sem]) rfl ⟨HB2.out, ?_⟩
      unfold QueSaid
      rw [← HTC.out]
      rw [if_pos rfl]
      exact ⟨none, 0, [], 0, rfl, rfl, (Own.nil w2 w2.heap.size 3 (c := 1) (f := icell) (fun _ => rfl)).els⟩
    · have hz' : ((n : Int) == 0) = false := by simp; omega
      have HQ := Lib.hid (queue_best n k7' 52 #[.pointer (some ⟨S, 0, none⟩)] (latE l) w2 ent_L1 (fun x L c v hxl hxb hbv hLv =>
        (queue_L1 n k7' x L A c ca S l v hxl hxb hLv (HK0.out.below hbv HK0.out.lt) ((HA.out.below hbv).more hbv.size) HAL.out hok).mono fun e w' ⟨he, hw⟩ => ⟨he, by subst hw; exact Below.refl _ _⟩))
      clear hok
      go_wp2_with fail
      refine HQ.out.mono ?_
      clear HQ
      rintro e w4 ⟨A', cap, q, x, rfl, hb4, hbf, hels⟩
      have HBF := Lib.hid hbf
      have HELS := Lib.hid hels
      have HB5 := Lib.hid (HB2.out.trans (hb4.mono HB2.out.size))
      clear hb4 hbf hels
      go_wp2_with fail
      refine bodyPost_ret (v := .tuple #[.slice A' n cap, .int .i64 x, .int .i64 0]) (by simp [results, Try.results24, go_sem]) rfl ⟨HB5.out, ?_⟩
      unfold QueSaid
      rw [← HTC.out]
      rw [if_pos rfl]
      exact ⟨A', cap, q, x, rfl, by rw [← latQ_ne (by omega)]; exact HBF.out, HELS.out⟩
  · have h1 : (tc == 0) = false := by simpa using h0
    have h2 : (tc != 0) = true := by simpa using h0
    have H0 := Lib.hid h0
    clear htc h0
    go_wp2_with fail
    refine bodyPost_ret (v := .tuple #[.slice none 0 0, .int .i64 0, .int .i64 tc]) (by simp [results, Try.results24, go_sem]) rfl ⟨HB2.out, ?_⟩
    unfold QueSaid
    rw [← HTC.out]
    rw [if_neg H0.out]
end Go.Proofs.Ytpinhmhempbmoaa
