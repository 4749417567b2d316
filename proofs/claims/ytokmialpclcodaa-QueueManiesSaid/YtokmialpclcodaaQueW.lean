/- A queue: what is out of range, what is wrong with jobs. Conditions: the jobs read so. -/
import Derived.Test.YtokmialpclcodaaQueP
import Derived.Test.YtokmialpclcodaaIdx
import Derived.Test.YtokmialpclcodaaIdxJ
import Derived.Test.YtokmialpclcodaaRegC
import Derived.IntWalk
namespace Go.Proofs.Ytokmialpclcodaa
open Go.RowKit Go.Shelf

abbrev Jb.agg (j : Jb) : Value := .agg #[.int .i64 j.t, j.s.val, .int .i64 j.x, .int .i64 j.y]
set_option maxRecDepth 100000 in
theorem queue_out (x : Int) (w : World) : Calls Try.prog 70 #[.int .i64 x] w fun e w' => e = .returned (.bool (outB x)) ∧ w' = w := by
  go_enter Try.func70, Try.ntmps70
  by_cases h0 : x < 0
  · have hd : decide (x < 0) = true := decide_eq_true h0
    go_wp2_with fail
    go_ret
    simp [outB, h0]
  · have hd : decide (x < 0) = false := decide_eq_false h0
    have HD := Lib.hid hd
    go_wp2_with fail
    go_ret
    exact ⟨by simp [outB, HD.out], rfl⟩
theorem ent_out : Ent Try.prog 70 := enters_of Try.func70 (by kernel_rfl) rfl
set_option maxRecDepth 100000 in
theorem queue_due (j : Jb) (w : World) : Calls Try.prog 33 #[j.agg] w fun e w' => e = .returned (.int .i64 j.x) ∧ Below w.heap.size w w' := by
  go_enter Try.func33, Try.ntmps33
  go_wp2_with fail
  go_ret
  exact ⟨rfl, (Below.refl _ w).alloc (Nat.le_refl _) _⟩
theorem ent_due : Ent Try.prog 33 := enters_of Try.func33 (by kernel_rfl) rfl
theorem ent_wrong1 : Ent Try.prog 69 := enters_of Try.func69 (by kernel_rfl) rfl

set_option maxRecDepth 100000 in
set_option maxHeartbeats 1000000 in
theorem queue_wrong1 (F : FuncId) (hF : Ent Try.prog F) (g : Jb → Int) (H : ∀ (j : Jb) (w : World), Calls Try.prog F #[j.agg] w fun e w' => e = .returned (.int .i64 (g j)) ∧ Below w.heap.size w w') (j : Jb) (S : Nat) (w : World) (hS : Blk w S 74 #[.func (.func F) #[] #[]]) :
    Calls Try.prog 69 #[j.agg, .pointer (some ⟨S, 0, none⟩)] w fun e w' => e = .returned (.bool (badJ g j)) ∧ Below w.heap.size w w' := by
  have hent : ∀ (args : Array Value) (w : World), (callFunc F args).run Try.prog w = .ok (.enter F args) w := hF
  clear hF
  have HT := Lib.hid (queue_out j.t (w.alloc (.cells #[.int .i64 j.t, j.s.val, .int .i64 j.x, .int .i64 j.y] 77)))
  have hk := hS.alloc (.cells #[.int .i64 j.t, j.s.val, .int .i64 j.x, .int .i64 j.y] 77)
  have hn := Blk.new w 77 #[.int .i64 j.t, j.s.val, .int .i64 j.x, .int .i64 j.y]
  have hb := (Below.refl w.heap.size w).alloc (Nat.le_refl _) (.cells #[.int .i64 j.t, j.s.val, .int .i64 j.x, .int .i64 j.y] 77)
  obtain ⟨V, hV⟩ : ∃ V, V = w.alloc (.cells #[.int .i64 j.t, j.s.val, .int .i64 j.x, .int .i64 j.y] 77) := ⟨_, rfl⟩
  rw [← hV] at HT hk hn hb
  have HV := Lib.hid hV
  have HB := Lib.hid hb
  have HG := Lib.hid (H j V)
  have c0 := hk.cell 0
  have n0 := hn.cell 0
  have n1 := hn.cell 1
  have n2 := hn.cell 2
  have n3 := hn.cell 3
  obtain ⟨Z, hZ⟩ : ∃ Z, Z = w.heap.size := ⟨_, rfl⟩
  rw [← hZ] at n0 n1 n2 n3
  have HZ := Lib.hid hZ
  clear hV hb hk hn hS H hZ
  go_enter Try.func69, Try.ntmps69
  go_wp2_with fail
  rw [← HV.out, ← HZ.out]
  clear HV
  refine HT.out.mono ?_
  clear HT
  rintro e w1 ⟨rfl, rfl⟩
  rcases ht : outB j.t with _ | _
  · have HTT := Lib.hid ht
    clear ht
    go_wp2_with fail
    refine HG.out.mono ?_
    clear HG
    rintro e w2 ⟨rfl, hb2⟩
    have HB2 := Lib.hid (HB.out.trans (hb2.mono HB.out.size))
    have HO := Lib.hid (queue_out (g j) w2)
    clear hb2
    go_wp2_with fail
    refine HO.out.mono ?_
    clear HO
    rintro e w3 ⟨rfl, rfl⟩
    go_wp2_with fail
    go_ret
    exact ⟨by simp [badJ, HTT.out], HB2.out⟩
  · have HTT := Lib.hid ht
    clear ht
    go_wp2_with fail
    go_ret
    exact ⟨by simp [badJ, HTT.out], HB.out⟩

set_option maxRecDepth 100000 in
set_option maxHeartbeats 1000000 in
theorem queue_wrong (F : FuncId) (hF : Ent Try.prog F) (g : Jb → Int) (H : ∀ (j : Jb) (w : World), Calls Try.prog F #[j.agg] w fun e w' => e = .returned (.int .i64 (g j)) ∧ Below w.heap.size w w') (n : Nat) (A : Option Addr) (c : Nat) (l : List Jb) (w : World) (hl : l.length = n) (hn : n ≤ maxLen) (hr : Els w w.heap.size 4 Jb.cells A l) :
    Calls Try.prog 32 #[.slice A n c, .func (.func F) #[] #[]] w fun e w' => e = .returned (.int .i64 (queCheck g l)) ∧ Below w.heap.size w w' := by
  have hb := (Below.refl w.heap.size w).alloc (Nat.le_refl _) (.cells #[.func (.func F) #[] #[]] 74)
  have hk := Blk.new w 74 #[.func (.func F) #[] #[]]
  have HC := Lib.hid (ContainsFunc_jobs 69 ent_wrong1 #[.pointer (some ⟨w.heap.size, 0, none⟩)] (badJ g) A n c l (w.alloc (.cells #[.func (.func F) #[] #[]] 74)) hl hn ((hr.alloc (Nat.le_refl _) _).more (by rw [size_alloc']; omega)) (fun a wx _ hbx =>
    (queue_wrong1 F hF g H a w.heap.size wx (hk.below hbx (by rw [size_alloc']; omega))).mono fun e w' ⟨he, hb'⟩ => ⟨he, hb'.mono hbx.size⟩))
  have HQ : Hid (queCheck g l = if 7 < n then 1 else if l.any (badJ g) then 4 else 0) := Lib.hid (by unfold queCheck; rw [hl])
  have HB := Lib.hid hb
  unfold maxLen at hn
  clear hb hk hl hr H hF
  go_enter Try.func32, Try.ntmps32
  by_cases h7 : 7 < n
  · have hd : decide ((7 : Int) < (n : Int)) = true := decide_eq_true (by omega)
    rw [if_pos h7] at HQ
    go_wp2_with fail
    go_ret
    exact ⟨by rw [HQ.out]; rfl, HB.out⟩
  · have hd : decide ((7 : Int) < (n : Int)) = false := decide_eq_false (by omega)
    rw [if_neg h7] at HQ
    go_wp2_with fail
    refine HC.out.mono ?_
    clear HC
    rintro e w1 ⟨rfl, hb1⟩
    have HB1 := Lib.hid (HB.out.trans (hb1.mono HB.out.size))
    clear hb1
    cases ha : l.any (badJ g) with
    | true =>
      rw [ha] at HQ
      clear ha
      go_wp2_with fail
      go_ret
      exact ⟨by rw [HQ.out]; rfl, HB1.out⟩
    | false =>
      rw [ha] at HQ
      clear ha
      go_wp2_with fail
      go_ret
      exact ⟨by rw [HQ.out]; rfl, HB1.out⟩

end Go.Proofs.Ytokmialpclcodaa
