/- slices.IndexFunc and slices.ContainsFunc at element types of this program, whatever the closure. Conditions: the slice reads as a list; the closure answers p and changes nothing that was there. -/
import Derived.Test.YtdinknpagklkjaaProg
import Derived.Test.YtdinknpagklkjaaLotsBests2
import Derived.Test.YtdinknpagklkjaaLotsBests6
import Derived.Test.YtdinknpagklkjaaLotsBests3
namespace Go.Proofs.Ytdinknpagklkjaa
open Go.RowKit

set_option maxRecDepth 100000 in
theorem IndexFunc_workers (F : FuncId) (hF : Ent Try.prog F) (cap : Array Value) (p : Int × BitVec 32 → Bool) (A : Option Addr) (n c : Nat) (l : List (Int × BitVec 32)) (w : World) (hl : l.length = n) (hn : n ≤ maxLen) (hr : Els w w.heap.size 2 (fun a => [.int .i64 a.1, .int .u32 (wN a.2)]) A l)
    (H : ∀ (a : Int × BitVec 32) (wx : World), a ∈ l → Below w.heap.size w wx → Calls Try.prog F (#[.agg #[.int .i64 a.1, .int .u32 (wN a.2)]] ++ cap) wx fun e w' => e = .returned (.bool (p a)) ∧ Below w.heap.size wx w') :
    Calls Try.prog 113 #[.slice A n c, .func (.func F) #[] cap] w fun e w' => e = .returned (.int .i64 (idxF p l)) ∧ Below w.heap.size w w' := by
  unfold maxLen at hn
  unfold Ent at hF
  have HL := Lib.hid hl
  have HH := Lib.hid H
  clear hl H
  go_enter Try.func113, Try.ntmps113
  go_wp2_with fail
  go_loopw [8] (fun i wr => ∃ k : Nat, k ≤ n ∧ i = .int .i64 k ∧ Below w.heap.size w wr ∧ (l.take k).any p = false) (fun i _ => n - (intOf i).toNat)
  case atStart => exact ⟨0, by omega, rfl, Below.refl _ _, rfl⟩
  case round =>
    obtain ⟨k, hk, rfl, hb, hno⟩ := hrel
    have HK := Lib.hid hno
    clear hno
    by_cases hlt : k < n
    · have hkl : k < l.length := by rw [HL.out]; exact hlt
      obtain ⟨b, off, rfl, hbb, g0, g1⟩ := (hr.below hb).at2 hkl
      have hmem := List.getElem_mem hkl
      obtain ⟨x, hx⟩ : ∃ x, x = l[k] := ⟨_, rfl⟩
      rw [← hx] at g0 g1 hmem
      have HX := Lib.hid hx
      clear hx
      have hcall := HH.out x wr hmem hb
      have HC := Lib.hid hcall
      clear hcall
      rcases hp : p x with _ | _
      · have HP := Lib.hid hp
        go_wp2_with fail
        refine HC.out.mono ?_
        rintro e w' ⟨rfl, hb'⟩
        rw [HP.out]
        clear hp
        go_wp2_with fail
        go_roundw
        case rel => exact ⟨k + 1, by omega, by go_num, hb.trans hb', by rw [any_take_succ _ _ _ hkl, HK.out, ← HX.out, HP.out]; rfl⟩
        case measure => simp [intOf]; omega
      · have HP := Lib.hid hp
        go_wp2_with fail
        refine HC.out.mono ?_
        rintro e w' ⟨rfl, hb'⟩
        rw [HP.out]
        clear hp
        go_wp2_with fail
        go_ret
        exact ⟨ret_i64 (idxF_at hkl HK.out (by rw [← HX.out]; exact HP.out)).symm, hb.trans hb'⟩
    · go_wp2_with fail
      go_ret
      exact ⟨ret_i64 (idxF_none (any_take_all (by rw [HL.out]; omega) HK.out)).symm, hb⟩
theorem ContainsFunc_workers (F : FuncId) (hF : Ent Try.prog F) (cap : Array Value) (p : Int × BitVec 32 → Bool) (A : Option Addr) (n c : Nat) (l : List (Int × BitVec 32)) (w : World) (hl : l.length = n) (hn : n ≤ maxLen) (hr : Els w w.heap.size 2 (fun a => [.int .i64 a.1, .int .u32 (wN a.2)]) A l)
    (H : ∀ (a : Int × BitVec 32) (wx : World), a ∈ l → Below w.heap.size w wx → Calls Try.prog F (#[.agg #[.int .i64 a.1, .int .u32 (wN a.2)]] ++ cap) wx fun e w' => e = .returned (.bool (p a)) ∧ Below w.heap.size wx w') :
    Calls Try.prog 84 #[.slice A n c, .func (.func F) #[] cap] w fun e w' => e = .returned (.bool (l.any p)) ∧ Below w.heap.size w w' := by
  have HC := Lib.hid (IndexFunc_workers F hF cap p A n c l w hl hn hr H)
  have HL := Lib.hid (idxF_nonneg p l)
  clear hl hn hr H hF
  go_enter Try.func84, Try.ntmps84
  go_wp2_with fail
  refine HC.out.mono ?_
  rintro e w' ⟨rfl, hb⟩
  go_wp2_with fail
  go_ret
  exact ⟨ret_bool HL.out, hb⟩


set_option maxRecDepth 100000 in
theorem IndexFunc_longs (F : FuncId) (hF : Ent Try.prog F) (cap : Array Value) (p : Int → Bool) (A : Option Addr) (n c : Nat) (l : List (Int)) (w : World) (hl : l.length = n) (hn : n ≤ maxLen) (hr : Els w w.heap.size 1 (fun a => [.int .i64 a]) A l)
    (H : ∀ (a : Int) (wx : World), a ∈ l → Below w.heap.size w wx → Calls Try.prog F (#[.int .i64 a] ++ cap) wx fun e w' => e = .returned (.bool (p a)) ∧ Below w.heap.size wx w') :
    Calls Try.prog 108 #[.slice A n c, .func (.func F) #[] cap] w fun e w' => e = .returned (.int .i64 (idxF p l)) ∧ Below w.heap.size w w' := by
  unfold maxLen at hn
  unfold Ent at hF
  have HL := Lib.hid hl
  have HH := Lib.hid H
  clear hl H
  go_enter Try.func108, Try.ntmps108
  go_wp2_with fail
  go_loopw [8] (fun i wr => ∃ k : Nat, k ≤ n ∧ i = .int .i64 k ∧ Below w.heap.size w wr ∧ (l.take k).any p = false) (fun i _ => n - (intOf i).toNat)
  case atStart => exact ⟨0, by omega, rfl, Below.refl _ _, rfl⟩
  case round =>
    obtain ⟨k, hk, rfl, hb, hno⟩ := hrel
    have HK := Lib.hid hno
    clear hno
    by_cases hlt : k < n
    · have hkl : k < l.length := by rw [HL.out]; exact hlt
      obtain ⟨b, off, rfl, hbb, g0⟩ := (hr.below hb).at1 hkl
      have hmem := List.getElem_mem hkl
      obtain ⟨x, hx⟩ : ∃ x, x = l[k] := ⟨_, rfl⟩
      rw [← hx] at g0 hmem
      have HX := Lib.hid hx
      clear hx
      have hcall := HH.out x wr hmem hb
      have HC := Lib.hid hcall
      clear hcall
      rcases hp : p x with _ | _
      · have HP := Lib.hid hp
        go_wp2_with fail
        refine HC.out.mono ?_
        rintro e w' ⟨rfl, hb'⟩
        rw [HP.out]
        clear hp
        go_wp2_with fail
        go_roundw
        case rel => exact ⟨k + 1, by omega, by go_num, hb.trans hb', by rw [any_take_succ _ _ _ hkl, HK.out, ← HX.out, HP.out]; rfl⟩
        case measure => simp [intOf]; omega
      · have HP := Lib.hid hp
        go_wp2_with fail
        refine HC.out.mono ?_
        rintro e w' ⟨rfl, hb'⟩
        rw [HP.out]
        clear hp
        go_wp2_with fail
        go_ret
        exact ⟨ret_i64 (idxF_at hkl HK.out (by rw [← HX.out]; exact HP.out)).symm, hb.trans hb'⟩
    · go_wp2_with fail
      go_ret
      exact ⟨ret_i64 (idxF_none (any_take_all (by rw [HL.out]; omega) HK.out)).symm, hb⟩
theorem ContainsFunc_longs (F : FuncId) (hF : Ent Try.prog F) (cap : Array Value) (p : Int → Bool) (A : Option Addr) (n c : Nat) (l : List (Int)) (w : World) (hl : l.length = n) (hn : n ≤ maxLen) (hr : Els w w.heap.size 1 (fun a => [.int .i64 a]) A l)
    (H : ∀ (a : Int) (wx : World), a ∈ l → Below w.heap.size w wx → Calls Try.prog F (#[.int .i64 a] ++ cap) wx fun e w' => e = .returned (.bool (p a)) ∧ Below w.heap.size wx w') :
    Calls Try.prog 73 #[.slice A n c, .func (.func F) #[] cap] w fun e w' => e = .returned (.bool (l.any p)) ∧ Below w.heap.size w w' := by
  have HC := Lib.hid (IndexFunc_longs F hF cap p A n c l w hl hn hr H)
  have HL := Lib.hid (idxF_nonneg p l)
  clear hl hn hr H hF
  go_enter Try.func73, Try.ntmps73
  go_wp2_with fail
  refine HC.out.mono ?_
  rintro e w' ⟨rfl, hb⟩
  go_wp2_with fail
  go_ret
  exact ⟨ret_bool HL.out, hb⟩

set_option maxRecDepth 100000 in
theorem IndexFunc_words (F : FuncId) (hF : Ent Try.prog F) (cap : Array Value) (p : BitVec 32 → Bool) (A : Option Addr) (n c : Nat) (l : List (BitVec 32)) (w : World) (hl : l.length = n) (hn : n ≤ maxLen) (hr : Els w w.heap.size 1 (fun a => [.int .u32 (wN a)]) A l)
    (H : ∀ (a : BitVec 32) (wx : World), a ∈ l → Below w.heap.size w wx → Calls Try.prog F (#[.int .u32 (wN a)] ++ cap) wx fun e w' => e = .returned (.bool (p a)) ∧ Below w.heap.size wx w') :
    Calls Try.prog 130 #[.slice A n c, .func (.func F) #[] cap] w fun e w' => e = .returned (.int .i64 (idxF p l)) ∧ Below w.heap.size w w' := by
  unfold maxLen at hn
  unfold Ent at hF
  have HL := Lib.hid hl
  have HH := Lib.hid H
  clear hl H
  go_enter Try.func130, Try.ntmps130
  go_wp2_with fail
  go_loopw [8] (fun i wr => ∃ k : Nat, k ≤ n ∧ i = .int .i64 k ∧ Below w.heap.size w wr ∧ (l.take k).any p = false) (fun i _ => n - (intOf i).toNat)
  case atStart => exact ⟨0, by omega, rfl, Below.refl _ _, rfl⟩
  case round =>
    obtain ⟨k, hk, rfl, hb, hno⟩ := hrel
    have HK := Lib.hid hno
    clear hno
    by_cases hlt : k < n
    · have hkl : k < l.length := by rw [HL.out]; exact hlt
      obtain ⟨b, off, rfl, hbb, g0⟩ := (hr.below hb).at1 hkl
      have hmem := List.getElem_mem hkl
      obtain ⟨x, hx⟩ : ∃ x, x = l[k] := ⟨_, rfl⟩
      rw [← hx] at g0 hmem
      have HX := Lib.hid hx
      clear hx
      have hcall := HH.out x wr hmem hb
      have HC := Lib.hid hcall
      clear hcall
      rcases hp : p x with _ | _
      · have HP := Lib.hid hp
        go_wp2_with fail
        refine HC.out.mono ?_
        rintro e w' ⟨rfl, hb'⟩
        rw [HP.out]
        clear hp
        go_wp2_with fail
        go_roundw
        case rel => exact ⟨k + 1, by omega, by go_num, hb.trans hb', by rw [any_take_succ _ _ _ hkl, HK.out, ← HX.out, HP.out]; rfl⟩
        case measure => simp [intOf]; omega
      · have HP := Lib.hid hp
        go_wp2_with fail
        refine HC.out.mono ?_
        rintro e w' ⟨rfl, hb'⟩
        rw [HP.out]
        clear hp
        go_wp2_with fail
        go_ret
        exact ⟨ret_i64 (idxF_at hkl HK.out (by rw [← HX.out]; exact HP.out)).symm, hb.trans hb'⟩
    · go_wp2_with fail
      go_ret
      exact ⟨ret_i64 (idxF_none (any_take_all (by rw [HL.out]; omega) HK.out)).symm, hb⟩
theorem ContainsFunc_words (F : FuncId) (hF : Ent Try.prog F) (cap : Array Value) (p : BitVec 32 → Bool) (A : Option Addr) (n c : Nat) (l : List (BitVec 32)) (w : World) (hl : l.length = n) (hn : n ≤ maxLen) (hr : Els w w.heap.size 1 (fun a => [.int .u32 (wN a)]) A l)
    (H : ∀ (a : BitVec 32) (wx : World), a ∈ l → Below w.heap.size w wx → Calls Try.prog F (#[.int .u32 (wN a)] ++ cap) wx fun e w' => e = .returned (.bool (p a)) ∧ Below w.heap.size wx w') :
    Calls Try.prog 106 #[.slice A n c, .func (.func F) #[] cap] w fun e w' => e = .returned (.bool (l.any p)) ∧ Below w.heap.size w w' := by
  have HC := Lib.hid (IndexFunc_words F hF cap p A n c l w hl hn hr H)
  have HL := Lib.hid (idxF_nonneg p l)
  clear hl hn hr H hF
  go_enter Try.func106, Try.ntmps106
  go_wp2_with fail
  refine HC.out.mono ?_
  rintro e w' ⟨rfl, hb⟩
  go_wp2_with fail
  go_ret
  exact ⟨ret_bool HL.out, hb⟩

set_option maxRecDepth 100000 in
theorem IndexFunc_ints (F : FuncId) (hF : Ent Try.prog F) (cap : Array Value) (p : Int → Bool) (A : Option Addr) (n c : Nat) (l : List (Int)) (w : World) (hl : l.length = n) (hn : n ≤ maxLen) (hr : Els w w.heap.size 1 (fun a => [.int .i64 a]) A l)
    (H : ∀ (a : Int) (wx : World), a ∈ l → Below w.heap.size w wx → Calls Try.prog F (#[.int .i64 a] ++ cap) wx fun e w' => e = .returned (.bool (p a)) ∧ Below w.heap.size wx w') :
    Calls Try.prog 133 #[.slice A n c, .func (.func F) #[] cap] w fun e w' => e = .returned (.int .i64 (idxF p l)) ∧ Below w.heap.size w w' := by
  unfold maxLen at hn
  unfold Ent at hF
  have HL := Lib.hid hl
  have HH := Lib.hid H
  clear hl H
  go_enter Try.func133, Try.ntmps133
  go_wp2_with fail
  go_loopw [8] (fun i wr => ∃ k : Nat, k ≤ n ∧ i = .int .i64 k ∧ Below w.heap.size w wr ∧ (l.take k).any p = false) (fun i _ => n - (intOf i).toNat)
  case atStart => exact ⟨0, by omega, rfl, Below.refl _ _, rfl⟩
  case round =>
    obtain ⟨k, hk, rfl, hb, hno⟩ := hrel
    have HK := Lib.hid hno
    clear hno
    by_cases hlt : k < n
    · have hkl : k < l.length := by rw [HL.out]; exact hlt
      obtain ⟨b, off, rfl, hbb, g0⟩ := (hr.below hb).at1 hkl
      have hmem := List.getElem_mem hkl
      obtain ⟨x, hx⟩ : ∃ x, x = l[k] := ⟨_, rfl⟩
      rw [← hx] at g0 hmem
      have HX := Lib.hid hx
      clear hx
      have hcall := HH.out x wr hmem hb
      have HC := Lib.hid hcall
      clear hcall
      rcases hp : p x with _ | _
      · have HP := Lib.hid hp
        go_wp2_with fail
        refine HC.out.mono ?_
        rintro e w' ⟨rfl, hb'⟩
        rw [HP.out]
        clear hp
        go_wp2_with fail
        go_roundw
        case rel => exact ⟨k + 1, by omega, by go_num, hb.trans hb', by rw [any_take_succ _ _ _ hkl, HK.out, ← HX.out, HP.out]; rfl⟩
        case measure => simp [intOf]; omega
      · have HP := Lib.hid hp
        go_wp2_with fail
        refine HC.out.mono ?_
        rintro e w' ⟨rfl, hb'⟩
        rw [HP.out]
        clear hp
        go_wp2_with fail
        go_ret
        exact ⟨ret_i64 (idxF_at hkl HK.out (by rw [← HX.out]; exact HP.out)).symm, hb.trans hb'⟩
    · go_wp2_with fail
      go_ret
      exact ⟨ret_i64 (idxF_none (any_take_all (by rw [HL.out]; omega) HK.out)).symm, hb⟩

end Go.Proofs.Ytdinknpagklkjaa

/- What words are told to be wrong; the rank of a set; the largest common set: the program's functions. Conditions: the words read as a list; the table. -/
namespace Go.Proofs.Ytdinknpagklkjaa
open Go.RowKit Go.Shelf
attribute [local go_sem ↓] w_and w_or w_xor w_andNot w_and1 w_and255 w_xor1 w_or0 w_shl w_shl1 w_shr w_sub w_add w_sub1 w_add1
attribute [local go_sem] w_eq0 w_ne0 w_eq1 w_eq w_ne

def lotBad (x : BitVec 32) : Bool := wShr x 10 != w0
def lotsCheck (l : List (BitVec 32)) : Int := if 10 < l.length then 1 else if l.any lotBad then 4 else 0
theorem ent_lot : Ent Try.prog 107 := ent_of Try.func107 (by kernel_rfl) rfl
theorem lot1_calls (x : BitVec 32) (w : World) : Calls Try.prog 107 #[.int .u32 (wN x)] w fun e w' => e = .returned (.bool (lotBad x)) ∧ Below w.heap.size w w' := by
  go_enter Try.func107, Try.ntmps107
  go_wp2_with fail
  go_ret
  exact ⟨rfl, Below.refl _ _⟩
set_option maxRecDepth 100000 in
theorem lots_check (A : Option Addr) (n c : Nat) (l : List (BitVec 32)) (w : World) (hl : l.length = n) (hn : n ≤ maxLen) (hr : Els w w.heap.size 1 wcell A l) :
    Calls Try.prog 72 #[.slice A n c] w fun e w' => e = .returned (.int .i64 (lotsCheck l)) ∧ Below w.heap.size w w' := by
  have HI := Lib.hid (ContainsFunc_words 107 ent_lot #[] lotBad A n c l w hl hn hr (fun a wx _ hb => (lot1_calls a wx).mono fun e w' h => ⟨h.1, h.2.mono hb.size⟩))
  have HN : Hid (lotsCheck l = if 10 < n then 1 else if l.any lotBad then 4 else 0) := by subst hl; rfl
  unfold maxLen at hn
  clear hl hr
  by_cases h10 : 10 < n
  · go_enter Try.func72, Try.ntmps72
    go_wp2_with fail
    go_ret
    exact ⟨ret_i64 (by rw [HN.out, if_pos h10]), Below.refl _ _⟩
  · go_enter Try.func72, Try.ntmps72
    go_wp2_with fail
    refine HI.out.mono ?_
    clear HI
    rintro e w' ⟨rfl, hb⟩
    have HB := Lib.hid hb
    clear hb
    cases hany : l.any lotBad with
    | true =>
      have HA := Lib.hid hany
      clear hany
      go_wp2_with fail
      go_ret
      exact ⟨ret_i64 (by rw [HN.out, if_neg h10, if_pos HA.out]), HB.out⟩
    | false =>
      have HA := Lib.hid hany
      clear hany
      go_wp2_with fail
      go_ret
      exact ⟨ret_i64 (by rw [HN.out, if_neg h10, if_neg (by rw [HA.out]; simp)]), HB.out⟩
theorem lotsCheck_n {l : List (BitVec 32)} (h : lotsCheck l = 0) : l.length ≤ 10 := by
  unfold lotsCheck at h
  split at h
  · cases h
  · omega
/-- What the program tells of a set: its rank and what is wrong. -/
noncomputable def rankR (l : List (BitVec 32)) (x : BitVec 32) : Int × Int :=
  if lotsCheck l ≠ 0 then (0, lotsCheck l) else if 2 ^ l.length ≤ x.toNat then (0, 2) else ((rk ((bitsL x).map (lw l)).reverse : Int), 0)
end Go.Proofs.Ytdinknpagklkjaa

/- What words are told to be wrong; sums; the rank of a set; whether it is free: the reference. Conditions: the words read as a list. -/
namespace Go.Proofs.Ytdinknpagklkjaa
open Go.RowKit
attribute [local go_sem ↓] w_and w_or w_xor w_andNot w_and1 w_and255 w_xor1 w_or0 w_shl w_shl1 w_shr w_sub w_add w_sub1 w_add1
attribute [local go_sem] w_eq0 w_ne0 w_eq1 w_eq w_ne

theorem lotBad_iff (x : BitVec 32) : lotBad x = decide (1024 ≤ wN x) := by
  unfold lotBad
  rw [shr_zero_iff]
  unfold wN
  rw [Bool.eq_iff_iff, decide_eq_true_iff, decide_eq_true_iff]
  omega
set_option maxRecDepth 100000 in
theorem ref_LotsCheck (A : Option Addr) (n c : Nat) (l : List (BitVec 32)) (w : World) (hl : l.length = n) (hn : n ≤ maxLen) (hr : Els w w.heap.size 1 wcell A l) :
    Calls Try.prog 39 #[.slice A n c] w fun e w' => e = .returned (.int .i64 (lotsCheck l)) ∧ w = w' := by
  have HN : Hid (lotsCheck l = if 10 < n then 1 else if l.any lotBad then 4 else 0) := by subst hl; rfl
  have HL := Lib.hid hl
  unfold maxLen at hn
  clear hl
  by_cases h10 : 10 < n
  · go_enter Try.func39, Try.ntmps39
    go_wp2_with fail
    go_ret
    exact ⟨ret_i64 (by rw [HN.out, if_pos h10]), rfl⟩
  · go_enter Try.func39, Try.ntmps39
    go_wp2_with fail
    go_loop [10] (fun i => ∃ k : Nat, k ≤ n ∧ i = .int .i64 k ∧ (l.take k).any lotBad = false) (fun i => n - (intOf i).toNat)
    case atStart => exact ⟨0, by omega, rfl, rfl⟩
    case round =>
      obtain ⟨k, hk, rfl, hno⟩ := hrel
      have HK := Lib.hid hno
      clear hno
      by_cases hlt : k < n
      · have hkl : k < l.length := by rw [HL.out]; exact hlt
        obtain ⟨b, off, rfl, hbb, g0⟩ := hr.at1 hkl
        obtain ⟨x, hx⟩ : ∃ x, x = l[k] := ⟨_, rfl⟩
        rw [← hx] at g0
        have HX := Lib.hid hx
        have hxw := lotBad_iff x
        clear hx
        by_cases hw : 1024 ≤ wN x
        · rw [decide_eq_true hw] at hxw
          have HW := Lib.hid hxw
          clear hxw
          go_wp2_with fail
          go_ret
          exact ⟨ret_i64 (by rw [HN.out, if_neg h10, if_pos (any_of_get hkl (by rw [← HX.out]; exact HW.out))]), rfl⟩
        · rw [decide_eq_false hw] at hxw
          have HW := Lib.hid hxw
          clear hxw
          go_wp2_with fail
          go_round
          case rel => exact ⟨k + 1, by omega, by go_num, by rw [any_take_succ _ _ _ hkl, HK.out, ← HX.out]; exact HW.out⟩
          case measure => simp [intOf]; omega
      · have hno := Lib.hid (any_take_all (by rw [HL.out]; omega) HK.out)
        go_wp2_with fail
        go_ret
        exact ⟨ret_i64 (by rw [HN.out, if_neg h10, if_neg (by rw [hno.out]; simp)]), rfl⟩
/-- The sum of those of a set among the first k. -/
def sumW (l : List (BitVec 32)) (s : BitVec 32) (k : Nat) : BitVec 32 := xsum (lw l) (fun j => s.getLsbD j) (List.range k)
theorem sumW_succ (l : List (BitVec 32)) (s : BitVec 32) (k : Nat) : sumW l s (k + 1) = if bitB s k = true then wXor (sumW l s k) (lw l k) else sumW l s k := by
  unfold sumW
  rw [List.range_succ, xsum_snoc, bitB_nat]
  split
  · rw [x_comm]
  · rfl
set_option maxRecDepth 100000 in
theorem ref_sum (A : Option Addr) (n c : Nat) (l : List (BitVec 32)) (s : BitVec 32) (w : World) (hl : l.length = n) (hn : n ≤ 32) (hr : Els w w.heap.size 1 wcell A l) :
    Calls Try.prog 112 #[.slice A n c, .int .u32 (wN s)] w fun e w' => e = .returned (.int .u32 (wN (sumW l s n))) ∧ w = w' := by
  have HL := Lib.hid hl
  clear hl
  go_enter Try.func112, Try.ntmps112
  go_wp2_with fail
  go_loopw [10, 5] (fun i x wr => ∃ k : Nat, k ≤ n ∧ i = .int .i64 k ∧ x = .int .u32 (wN (sumW l s k)) ∧ w = wr) (fun i _ _ => n - (intOf i).toNat)
  case atStart => exact ⟨0, by omega, rfl, rfl, rfl⟩
  case round =>
    rename World => wr
    obtain ⟨k, hk, rfl, rfl, rfl⟩ := hrel
    by_cases hlt : k < n
    · have hkl : k < l.length := by rw [HL.out]; exact hlt
      obtain ⟨b, off, rfl, hbb, g0⟩ := hr.at1 hkl
      rw [← lw_at l k hkl] at g0
      have HS := Lib.hid (sumW_succ l s k)
      go_wp2_with fail
      refine (Bit_any s k _).mono ?_
      rintro e w' ⟨rfl, rfl⟩
      cases hb : bitB s k with
      | true =>
        rw [hb] at HS
        clear hb
        go_wp2_with fail
        go_roundw
        case rel => exact ⟨k + 1, by omega, by go_num, by rw [HS.out]; rfl, trivial⟩
        case measure => simp [intOf]; omega
      | false =>
        rw [hb] at HS
        clear hb
        go_wp2_with fail
        go_roundw
        case rel => exact ⟨k + 1, by omega, by go_num, by rw [HS.out]; rfl, trivial⟩
        case measure => simp [intOf]; omega
    · obtain rfl : k = n := by omega
      go_wp2_with fail
      go_ret
      exact ⟨rfl, rfl⟩
end Go.Proofs.Ytdinknpagklkjaa

/- All sets within a set of words: their sums, and which are free: in plain Lean. Conditions: none. -/
namespace Go.Proofs.Ytdinknpagklkjaa
open Go.RowKit

def Sb (s x : BitVec 32) : Prop := s.toNat &&& x.toNat = s.toNat
theorem Sb_iff {s x : BitVec 32} : Sb s x ↔ ∀ j, s.getLsbD j = true → x.getLsbD j = true := ⟨fun h j hj => @bit_sub x.toNat s.toNat h j hj, fun h => sub_of_bits h⟩
theorem Sb_self (x : BitVec 32) : Sb x x := Nat.and_self _
theorem lot_pos {s : BitVec 32} (h : s ≠ w0) : 0 < s.toNat := by
  rcases Nat.eq_zero_or_pos s.toNat with e | e
  · exact absurd (BitVec.eq_of_toNat_eq (by rw [e]; rfl)) h
  · exact e
theorem lotNext_nat {s x : BitVec 32} (h : s ≠ w0) : (wAnd (wSub s w1) x).toNat = (s.toNat - 1) &&& x.toNat := by
  unfold wAnd wSub
  rw [BitVec.toNat_and, BitVec.toNat_sub]
  have := lot_pos h
  have hs := s.isLt
  have h1 : w1.toNat = 1 := rfl
  rw [h1]
  congr 1
  omega
theorem lotNext_sb (s x : BitVec 32) : Sb (wAnd (wSub s w1) x) x := Sb_iff.2 fun j hj => by
  rw [b_and, Bool.and_eq_true] at hj
  exact hj.2
theorem lotNext_lt {s x : BitVec 32} (h : s ≠ w0) : (wAnd (wSub s w1) x).toNat < s.toNat := by
  rw [lotNext_nat h]
  exact sub_lt (lot_pos h)
theorem lotNext_top {s t x : BitVec 32} (hs : Sb s x) (ht : Sb t x) (h : t.toNat < s.toNat) : t.toNat ≤ (wAnd (wSub s w1) x).toNat := by
  rw [lotNext_nat (fun e => by rw [e] at h; have : w0.toNat = 0 := rfl; omega)]
  exact sub_next _ _ _ hs ht h
theorem xsum_rev (f : Nat → BitVec 32) (p : Nat → Bool) : ∀ L : List Nat, xsum f p L.reverse = xsum f p L
  | [] => rfl
  | a :: L => by
    rw [List.reverse_cons, xsum_snoc, xsum_rev f p L]
    rfl
theorem sumW_bits (l : List (BitVec 32)) {s x : BitVec 32} {n : Nat} (hn : n ≤ 32) (hx : x.toNat < 2 ^ n) (h : Sb s x) : sumW l s n = xsum (lw l) (fun j => s.getLsbD j) (bitsL x).reverse := by
  unfold sumW bitsL
  rw [xsum_rev, xsum_filter (lw l) (Sb_iff.1 h)]
  refine (xsum_range (lw l) (fun j hj => ?_) 32 hn).symm
  rw [← Bool.not_eq_true]
  intro e
  have := Sb_iff.1 h j e
  rw [bit_lt hx hj] at this
  cases this
/-- The word of those of x for which p says yes. -/
def pickW (p : Nat → Bool) (x : BitVec 32) : BitVec 32 := BitVec.ofNat 32 (mkS (fun j => p j && x.getLsbD j) 32)
theorem pickW_bit (p : Nat → Bool) (x : BitVec 32) (j : Nat) : (pickW p x).getLsbD j = (p j && x.getLsbD j) := by
  unfold pickW
  rw [BitVec.getLsbD_ofNat, mkS_bit]
  rcases Nat.lt_or_ge j 32 with h | h
  · simp [h]
  · rw [b_ge x h]
    simp
theorem pickW_sb (p : Nat → Bool) (x : BitVec 32) : Sb (pickW p x) x := Sb_iff.2 fun j hj => by
  rw [pickW_bit, Bool.and_eq_true] at hj
  exact hj.2
theorem pickW_sum (f : Nat → BitVec 32) (p : Nat → Bool) (x : BitVec 32) : xsum f (fun j => (pickW p x).getLsbD j) (bitsL x).reverse = xsum f p (bitsL x).reverse :=
  xsum_congr f fun j hj => by
    rw [pickW_bit, mem_bitsL.1 (List.mem_reverse.1 hj), Bool.and_true]
theorem bitsL_nodup (x : BitVec 32) : (bitsL x).Nodup := List.nodup_range.filter _
theorem rev_nodup (x : BitVec 32) : (bitsL x).reverse.Nodup := List.pairwise_reverse.2 ((bitsL_nodup x).imp fun h => h.symm)
theorem Sp_sums (l : List (BitVec 32)) {x : BitVec 32} {n : Nat} (hn : n ≤ 32) (hx : x.toNat < 2 ^ n) (y : BitVec 32) : Sp ((bitsL x).map (lw l)).reverse y ↔ ∃ s, Sb s x ∧ sumW l s n = y := by
  rw [← List.map_reverse, Sp_xsum (lw l) _ y (rev_nodup x)]
  constructor
  · rintro ⟨p, hp⟩
    exact ⟨pickW p x, pickW_sb p x, by rw [sumW_bits l hn hx (pickW_sb p x), pickW_sum, hp]⟩
  · rintro ⟨s, hs, rfl⟩
    exact ⟨_, (sumW_bits l hn hx hs).symm⟩
theorem pop_bitsL (x : BitVec 32) : pop x = (bitsL x).length := by
  unfold pop popTo bitsL
  rw [List.countP_eq_length_filter]
/-- No sum of some of a set is nothing. -/
def FreeW (l : List (BitVec 32)) (x : BitVec 32) (n : Nat) : Prop := ∀ s, Sb s x → s ≠ w0 → sumW l s n ≠ w0
theorem free_iff (l : List (BitVec 32)) {x : BitVec 32} {n : Nat} (hn : n ≤ 32) (hx : x.toNat < 2 ^ n) : FreeW l x n ↔ rk ((bitsL x).map (lw l)).reverse = pop x := by
  rw [pop_bitsL, ← List.map_reverse, ← List.length_reverse, ← free_rk (lw l) _ (rev_nodup x)]
  constructor
  · rintro h p ⟨j, hj, hpj⟩ h0
    have hjx := mem_bitsL.1 (List.mem_reverse.1 hj)
    refine h (pickW p x) (pickW_sb p x) (fun e => ?_) ?_
    · have := pickW_bit p x j
      rw [e, b_0, hpj, hjx] at this
      cases this
    · rw [sumW_bits l hn hx (pickW_sb p x), pickW_sum, h0]
  · intro h s hs h0 hsum
    rw [sumW_bits l hn hx hs] at hsum
    refine h _ ?_ hsum
    have hex : ∃ j, s.getLsbD j = true := by
      obtain ⟨i, _, _, hi, _⟩ := bl_top h0
      exact ⟨i, hi⟩
    obtain ⟨j, hj⟩ := hex
    exact ⟨j, List.mem_reverse.2 (mem_bitsL.2 (Sb_iff.1 hs j hj)), hj⟩
/-- The sums of the sets down to s. -/
def SumsTo (l : List (BitVec 32)) (x : BitVec 32) (n : Nat) (K : List (BitVec 32)) (m : Nat) : Prop := K.Nodup ∧ ∀ y, y ∈ K ↔ ∃ t, Sb t x ∧ m ≤ t.toNat ∧ sumW l t n = y
theorem SumsTo.start (l : List (BitVec 32)) (x : BitVec 32) (n : Nat) : SumsTo l x n [] (x.toNat + 1) :=
  ⟨List.nodup_nil, fun y => ⟨fun h => (by cases h), fun ⟨t, h1, h2, _⟩ => by have := sub_le h1; omega⟩⟩
theorem SumsTo.old {l : List (BitVec 32)} {x s : BitVec 32} {n : Nat} {K : List (BitVec 32)} (hs : Sb s x) (h : SumsTo l x n K (s.toNat + 1)) (hin : sumW l s n ∈ K) : SumsTo l x n K s.toNat :=
  ⟨h.1, fun y => by
    rw [h.2]
    constructor
    · rintro ⟨t, h1, h2, h3⟩
      exact ⟨t, h1, by omega, h3⟩
    · rintro ⟨t, h1, h2, h3⟩
      by_cases he : t = s
      · subst he
        have := (h.2 _).1 hin
        rwa [h3] at this
      · refine ⟨t, h1, ?_, h3⟩
        rcases Nat.eq_or_lt_of_le h2 with e | e
        · exact absurd (BitVec.eq_of_toNat_eq e.symm) he
        · exact e⟩
theorem SumsTo.new {l : List (BitVec 32)} {x s : BitVec 32} {n : Nat} {K : List (BitVec 32)} (hs : Sb s x) (h : SumsTo l x n K (s.toNat + 1)) (hin : sumW l s n ∉ K) : SumsTo l x n (K ++ [sumW l s n]) s.toNat :=
  ⟨List.nodup_append.2 ⟨h.1, by simp, fun a ha b hb e => by
      rw [List.mem_singleton] at hb
      subst hb
      subst e
      exact hin ha⟩, fun y => by
    rw [List.mem_append, h.2, List.mem_singleton]
    constructor
    · rintro (⟨t, h1, h2, h3⟩ | rfl)
      · exact ⟨t, h1, by omega, h3⟩
      · exact ⟨s, hs, Nat.le_refl _, rfl⟩
    · rintro ⟨t, h1, h2, h3⟩
      rcases Nat.eq_or_lt_of_le h2 with e | e
      · rw [← h3, BitVec.eq_of_toNat_eq e.symm]
        exact .inr rfl
      · exact .inl ⟨t, h1, e, h3⟩⟩
theorem SumsTo.next {l : List (BitVec 32)} {x s : BitVec 32} {n : Nat} {K : List (BitVec 32)} (hs : Sb s x) (h : SumsTo l x n K s.toNat) (h0 : s ≠ w0) : SumsTo l x n K ((wAnd (wSub s w1) x).toNat + 1) :=
  ⟨h.1, fun y => by
    rw [h.2]
    have hlt := lotNext_lt (x := x) h0
    constructor
    · rintro ⟨t, h1, h2, h3⟩
      exact ⟨t, h1, by omega, h3⟩
    · rintro ⟨t, h1, h2, h3⟩
      refine ⟨t, h1, ?_, h3⟩
      rcases Nat.lt_or_ge t.toNat s.toNat with hl | hg
      · have := lotNext_top hs h1 hl
        omega
      · exact hg⟩
theorem SumsTo.done {l : List (BitVec 32)} {x s : BitVec 32} {n : Nat} {K : List (BitVec 32)} (hn : n ≤ 32) (hx : x.toNat < 2 ^ n) (h : SumsTo l x n K s.toNat) (h0 : s = w0) : K.length = 2 ^ rk ((bitsL x).map (lw l)).reverse :=
  span_many h.1 fun y => by
    rw [h.2, Sp_sums l hn hx]
    constructor
    · rintro ⟨t, h1, _, h3⟩
      exact ⟨t, h1, h3⟩
    · rintro ⟨t, h1, h3⟩
      refine ⟨t, h1, ?_, h3⟩
      rw [h0]
      exact Nat.zero_le _
abbrev lotV (x : BitVec 32) : Value := .int .u32 (wN x)
def seenL (K : List (BitVec 32)) : List (BitVec 32 × Value) := K.map fun y => (y, .bool true)
theorem getK_seen (y : BitVec 32) : ∀ K : List (BitVec 32), getK (seenL K) y = if y ∈ K then some (.bool true) else none
  | [] => rfl
  | a :: K => by
    show (if y = a then some (Value.bool true) else getK (seenL K) y) = _
    rw [getK_seen y K]
    by_cases h : y = a
    · simp [h]
    · simp [h]
theorem putK_seen {y : BitVec 32} {K : List (BitVec 32)} (h : y ∉ K) : putK (seenL K) y (.bool true) = seenL (K ++ [y]) := by
  rw [putK_none]
  · simp [seenL]
  · intro p hp
    obtain ⟨z, hz, rfl⟩ := List.mem_map.1 hp
    exact fun e => h (e ▸ hz)
end Go.Proofs.Ytdinknpagklkjaa
