/- When all is done, by the reference. Conditions: the times and the hands read as lists. -/
import Derived.Test.YtiglpcodahkhnaaSplitP
import Derived.Test.YtiglpcodahkhnaaInBox
namespace Go.Proofs.Ytiglpcodahkhnaa
open Go.RowKit

set_option maxRecDepth 100000 in
theorem ref_End (sz R : List Int) (H : Nat) (A B : Option Addr) (n c d : Nat) (BA BB : Nat) (w : World) (hn : sz.length = n) (hm : R.length = n) (h8 : n ≤ 8) (hH4 : H ≤ 4) (hb : ∀ i, 0 ≤ sz.getD i 0 ∧ sz.getD i 0 ≤ 1048576) (hr : Els w BA 1 icell A sz) (hR : Els w BB 1 icell B R) :
    Calls Try.prog 56 #[.slice A n c, .int .i64 H, .slice B n d] w fun e w' => e = .returned (.int .i64 (mxF (fun h : Nat => inB sz R h) H)) ∧ w = w' := by
  have HCALL := Lib.hid (fun j => ref_inBoxI sz R j A B n n c d BA BB w hn hm (Nat.le_refl _) h8 hb hr hR)
  clear hn hm hb hr hR
  go_enter Try.func56, Try.ntmps56
  go_wp2_with fail
  go_loop [8, 7] (fun s t => ∃ h : Nat, h ≤ H ∧ s = .int .i64 h ∧ t = .int .i64 (mxF (fun h : Nat => inB sz R h) h)) (fun s _ => H - (intOf s).toNat)
  case atStart => exact ⟨0, by omega, rfl, rfl⟩
  case round =>
    obtain ⟨h, hh, rfl, rfl⟩ := hrel
    by_cases hlh : h < H
    · have hs : mxF (fun h : Nat => inB sz R h) (h + 1) = if mxF (fun h : Nat => inB sz R h) h < inB sz R h then inB sz R h else mxF (fun h : Nat => inB sz R h) h := rfl
      have C1 := HCALL.out (h : Int)
      obtain ⟨x, hx⟩ : ∃ x, x = inB sz R (h : Int) := ⟨_, rfl⟩
      obtain ⟨y, hy⟩ : ∃ y, y = mxF (fun h : Nat => inB sz R h) h := ⟨_, rfl⟩
      rw [← hx, ← hy] at hs
      rw [← hx] at C1
      rw [← hy]
      have HS := Lib.hid hs
      have HC1 := Lib.hid C1
      clear hs C1 hx hy
      by_cases hxy : y < x
      · go_wp2_with fail
        refine HC1.out.mono ?_
        rintro e w' ⟨rfl, rfl⟩
        go_wp2_with fail
        refine HC1.out.mono ?_
        rintro e w' ⟨rfl, rfl⟩
        go_wp2_with fail
        go_round
        case rel => exact ⟨h + 1, by omega, by go_num, by rw [HS.out, if_pos hxy]⟩
        case measure => simp [intOf]; omega
      · go_wp2_with fail
        refine HC1.out.mono ?_
        rintro e w' ⟨rfl, rfl⟩
        go_wp2_with fail
        go_round
        case rel => exact ⟨h + 1, by omega, by go_num, by rw [HS.out, if_neg (by omega)]⟩
        case measure => simp [intOf]; omega
    · obtain rfl : h = H := by omega
      go_wp2_with fail
      go_ret
      exact ⟨rfl, rfl⟩
end Go.Proofs.Ytiglpcodahkhnaa
