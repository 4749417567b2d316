/- The parts the program holds, and what its sort compares. Conditions: the parts' row is the caller's own; the edges read as a list. -/
import Derived.Test.YtjkfogkpacmdlaaKruP
import Derived.Test.YtjkfogkpacmdlaaStbK
import Derived.Test.YtjkfogkpacmdlaaRegC
namespace Go.Proofs.Ytjkfogkpacmdlaa
open Go.RowKit

set_option maxRecDepth 100000 in
theorem un_find (A : Option Addr) (N cp B : Nat) (up : List Int) (rt : Nat → Nat) (v : Nat) (w : World) (hv : v < N) (hu : UF N up rt) (ho : Own w B 3 1 icell A cp up) :
    Calls Try.prog 56 #[.slice A N cp, .int .i64 v] w fun e w' => e = .returned (.int .i64 (rt v : Nat)) ∧ w = w' := by
  have HU := Lib.hid hu
  have HO := Lib.hid ho
  clear hu ho
  go_enter Try.func56, Try.ntmps56
  go_wp2_with fail
  go_loop [1] (fun s => ∃ y : Nat, y < N ∧ s = .int .i64 (y : Int) ∧ rt y = rt v) (fun s => (intOf s).toNat)
  case atStart => exact ⟨v, hv, rfl, rfl⟩
  case round =>
    obtain ⟨y, hy, rfl, hr⟩ := hrel
    obtain ⟨x, h1, h2, h3, h4⟩ := HU.out.low y hy
    have hl : y < up.length := by rw [HU.out.len]; exact hy
    obtain ⟨g, rfl, hg1, hg2, ca, fa⟩ := HO.out.cell1 (f := fun x : Int => .int .i64 x) hl
    rw [← getD_at _ _ hl 0, h2] at ca
    have H34 := Lib.hid (h3.trans hr)
    have H4 := Lib.hid h4
    have HR := Lib.hid hr
    clear h2 h3 h4 hr hl
    by_cases hxy : x = y
    · subst hxy
      have hxb : ((x : Int) != (x : Int)) = false := by simp
      have he := H4.out.1 rfl
      rw [HR.out] at he
      have HE := Lib.hid he
      clear he
      go_wp2_with fail
      go_ret
      exact ⟨ret_i64 (by rw [HE.out]), rfl⟩
    · have hxb : ((x : Int) != (y : Int)) = true := by simp; omega
      have hlt : x < y := by omega
      have hxN : x < N := by omega
      go_wp2_with fail
      go_round
      case rel => exact ⟨x, hxN, rfl, H34.out⟩
      case measure => simp [intOf]; omega

set_option maxRecDepth 100000 in
theorem un_join (A : Option Addr) (N cp B : Nat) (up : List Int) (rt : Nat → Nat) (v x : Nat) (w : World) (hv : v < N) (hx : x < N) (hN : N ≤ 1000) (hu : UF N up rt) (ho : Own w B 3 1 icell A cp up) :
    Calls Try.prog 41 #[.slice A N cp, .int .i64 v, .int .i64 x] w fun e w' => e = .returned (.bool (decide (rt v ≠ rt x))) ∧ Below B w w' ∧ (∃ g p y, blkOf A = some g ∧ w' = w.setCell ⟨g, p, none⟩ y) ∧ ∃ up', UF N up' (joinR rt (rt v) (rt x)) ∧ Own w' B 3 1 icell A cp up' := by
  have H1 := Lib.hid (un_find A N cp B up rt v w hv hu ho)
  have H2 := Lib.hid (un_find A N cp B up rt x w hx hu ho)
  have ha : rt v < N := Nat.lt_of_le_of_lt (hu.le hv) hv
  have hb : rt x < N := Nat.lt_of_le_of_lt (hu.le hx) hx
  have HJ := Lib.hid (hu.join ha hb (hu.idem hv) (hu.idem hx))
  have hl : up.length = N := hu.len
  obtain ⟨a, hae⟩ : ∃ a, a = rt v := ⟨_, rfl⟩
  obtain ⟨b, hbe⟩ : ∃ b, b = rt x := ⟨_, rfl⟩
  rw [← hae] at H1 HJ ha ⊢
  rw [← hbe] at H2 HJ hb ⊢
  obtain ⟨g, rfl, hg1, hg2, ca, fa⟩ := ho.cell1 (f := fun x : Int => .int .i64 x) (k := max a b) (by omega)
  rw [← getD_at _ _ (show max a b < up.length by omega) 0] at ca
  obtain ⟨y, hy⟩ : ∃ y, y = up.getD (max a b) 0 := ⟨_, rfl⟩
  rw [← hy] at ca
  have HN : Hid (Own ((w.setCell ⟨g, max a b, none⟩ (.int .i64 ((min a b : Nat) : Int)))) B 3 1 icell (some ⟨g, 0, none⟩) cp (up.set (max a b) ((min a b : Nat) : Int))) := Lib.hid (ho.put1 (f := fun x : Int => .int .i64 x) (k := max a b) (x := ((min a b : Nat) : Int)) (by omega))
  clear ho hu hl hae hbe hy
  by_cases hab : a ≤ b
  · rw [Nat.max_eq_right hab, Nat.min_eq_left hab] at HJ HN
    rw [Nat.max_eq_right hab] at ca fa
    have hne : ((a : Int) != (b : Int)) = decide (a ≠ b) := by
      by_cases e : a = b
      · subst e; simp
      · have e' : ¬ (a : Int) = b := by omega
        simp [e, e']
    obtain ⟨q, hq⟩ : ∃ q, q = decide (a ≠ b) := ⟨_, rfl⟩
    rw [← hq] at hne ⊢
    clear hq
    have hmx : max (a : Int) b = (b : Int) := by omega
    have hmn : min (a : Int) b = (a : Int) := by omega
    go_enter Try.func41, Try.ntmps41
    go_wp2_with fail
    refine H1.out.mono ?_
    rintro e w' ⟨rfl, rfl⟩
    go_wp2_with fail
    refine H2.out.mono ?_
    rintro e w' ⟨rfl, rfl⟩
    go_wp2_with fail
    go_ret
    exact ⟨rfl, (Below.refl _ _).setCell (p := ⟨g, b, none⟩) hg1 _, ⟨g, _, _, rfl, rfl⟩, _, HJ.out, HN.out⟩
  · rw [Nat.max_eq_left (show b ≤ a by omega), Nat.min_eq_right (show b ≤ a by omega)] at HJ HN
    rw [Nat.max_eq_left (show b ≤ a by omega)] at ca fa
    have hne : ((a : Int) != (b : Int)) = decide (a ≠ b) := by
      by_cases e : a = b
      · subst e; simp
      · have e' : ¬ (a : Int) = b := by omega
        simp [e, e']
    obtain ⟨q, hq⟩ : ∃ q, q = decide (a ≠ b) := ⟨_, rfl⟩
    rw [← hq] at hne ⊢
    clear hq
    have hmx : max (a : Int) b = (a : Int) := by omega
    have hmn : min (a : Int) b = (b : Int) := by omega
    go_enter Try.func41, Try.ntmps41
    go_wp2_with fail
    refine H1.out.mono ?_
    rintro e w' ⟨rfl, rfl⟩
    go_wp2_with fail
    refine H2.out.mono ?_
    rintro e w' ⟨rfl, rfl⟩
    go_wp2_with fail
    go_ret
    exact ⟨rfl, (Below.refl _ _).setCell (p := ⟨g, a, none⟩) hg1 _, ⟨g, _, _, rfl, rfl⟩, _, HJ.out, HN.out⟩

set_option maxRecDepth 100000 in
theorem span_alone (N : Nat) (w : World) (hN : N ≤ 1000) :
    Calls Try.prog 40 #[.int .i64 N] w fun e w' => ∃ A cp, e = .returned (.slice A N cp) ∧ Below w.heap.size w w' ∧ Own w' w.heap.size 3 1 icell A cp (restL N 0) := by
  obtain ⟨B, hB⟩ : ∃ B, B = w.heap.size := ⟨_, rfl⟩
  rw [← hB]
  have HB := Lib.hid hB
  clear hB
  have hR : restL N 0 = (List.range N).map fun q : Nat => (q : Int) := by
    unfold restL
    rw [Nat.sub_zero]
    exact List.map_congr_left fun q _ => by rw [Nat.zero_add]
  rw [hR]
  clear hR
  go_enter Try.func40, Try.ntmps40
  go_wp2_with fail
  go_loopw [6, 4, 3] (fun s6 _ s3 wr => ∃ (k : Nat) (A1 : Option Addr) (cap : Nat), k ≤ N ∧ s6 = .int .i64 k ∧ s3 = .slice A1 k cap ∧ Below B w wr ∧ Own wr B 3 1 icell A1 cap ((List.range k).map fun q : Nat => (q : Int))) (fun s6 _ _ _ => N - (intOf s6).toNat)
  case atStart => exact ⟨0, none, 0, Nat.zero_le _, rfl, rfl, Below.refl _ _, Own.nil _ _ _ (fun _ => rfl)⟩
  case round =>
    rename World => wr
    obtain ⟨k, A1, cap, hk, rfl, rfl, hb, ho⟩ := hrel
    have hYr : B ≤ wr.heap.size := by have := hb.size; rw [← HB.out] at this; exact this
    by_cases hkm : k < N
    · have hsn : ((List.range k).map fun q : Nat => (q : Int)) ++ [(k : Int)] = (List.range (k + 1)).map fun q : Nat => (q : Int) := by rw [List.range_succ, List.map_append]; rfl
      have hll : ((List.range k).map fun q : Nat => (q : Int)).length = k := by simp
      have HO := Lib.hid ho
      have HBR := Lib.hid hb
      have HSN := Lib.hid hsn
      have HLL := Lib.hid hll
      clear ho hb hsn hll
      go_wp2_with (at_builtin; (
        refine wpList_push rfl _ _ _ rfl B 1 3 (.int .i64 0) 8 Try.underlying87 (by kernel_rfl) rfl (by omega) icell wr #[.int .i64 k] A1 k cap _ HLL.out rfl HO.out 1 [(k : Int)] rfl rfl _ rfl rfl (by simp [Value.oneCell']) (by unfold maxLen; omega) (by omega) hYr ?_
        intro A9 cap9 w9 hown9 hgrow9 hloc9))
      have hb9 := (HBR.out.alloc hYr _).grown hgrow9 (by rw [size_alloc']; omega) (fun g hg => (HO.out.lt g hg).1)
      rw [HSN.out] at hown9
      have HB9 := Lib.hid hb9
      have HO9 := Lib.hid hown9
      clear hb9 hown9 hgrow9 hloc9
      go_roundw
      case rel => exact ⟨k + 1, A9, cap9, by omega, by go_num, rfl, HB9.out, HO9.out⟩
      case measure => simp [intOf]; omega
    · obtain rfl : k = N := by omega
      have HO := Lib.hid ho
      have HBR := Lib.hid hb
      clear ho hb
      go_wp2_with fail
      go_ret
      exact ⟨A1, cap, rfl, HBR.out, HO.out⟩

theorem span_cmp (l : List Ed) (N a b : Int) (A : Option Addr) (n c S B : Nat) (w : World) (hn : l.length = n) (ha0 : 0 ≤ a) (ha : a < n) (hb0 : 0 ≤ b) (hb : b < n) (hS : Blk w S 24 #[.int .i64 N, .slice A n c]) (hr : Els w B 3 Ed.cells A l) :
    Calls Try.prog 38 #[.int .i64 a, .int .i64 b, .pointer (some ⟨S, 0, none⟩)] w fun e w' => e = .returned (.int .i64 (cmpI (valW l a) (valW l b))) ∧ ∃ m, w' = w.drewN m := by
  obtain ⟨i, rfl⟩ := Int.eq_ofNat_of_zero_le ha0
  obtain ⟨j, rfl⟩ := Int.eq_ofNat_of_zero_le hb0
  have hi : i < l.length := by omega
  have hj : j < l.length := by omega
  obtain ⟨g, off, rfl, _, _, _, g0⟩ := hr.at3 hi
  obtain ⟨g', off', he, _, _, _, g1⟩ := hr.at3 hj
  obtain ⟨rfl, rfl⟩ : g = g' ∧ off = off' := by simpa using he
  have e1 : l[i].w = valW l i := by unfold valW edAt; rw [Int.toNat_natCast, getD_at l i hi]
  have e2 : l[j].w = valW l j := by unfold valW edAt; rw [Int.toNat_natCast, getD_at l j hj]
  have c0 := hS.cell 1
  rw [e1] at g0
  rw [e2] at g1
  generalize valW l i = x at g0 ⊢
  generalize valW l j = y at g1 ⊢
  clear he hr hS hn e1 e2
  go_enter Try.func38, Try.ntmps38
  go_wp2_with fail
  go_quiet ((go_at_call 39; exact quietL (cmp_Compare _ _ _)))
  go_wp2_with fail
  go_ret
  exact ⟨rfl, _, rfl⟩
theorem ent_spanLeast1 : Ent Try.prog 38 := ent_of Try.func38 (by kernel_rfl) rfl
end Go.Proofs.Ytjkfogkpacmdlaa
