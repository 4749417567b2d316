/- Players that have given scores, the first of all: the reference's search. Conditions: the scores read as a list. -/
import Derived.Test.YtaldkafibemhnaaBit
import Derived.Test.YtaldkafibemhnaaOwn
namespace Go.Proofs.Ytaldkafibemhnaa
open Go.RowKit
attribute [local go_sem ↓] w_and w_or w_xor w_andNot w_and1 w_and255 w_xor1 w_or0 w_shl w_shl1 w_shr w_sub w_add w_sub1 w_add1
attribute [local go_sem] w_eq0 w_ne0 w_eq1 w_eq w_ne

abbrev pcell (x : BitVec 32) : List Value := [.int .u32 (wN x)]
abbrev scell (x : Int) : List Value := [.int .i64 x]
def nw (k : Nat) : BitVec 32 := BitVec.ofNat 32 k
theorem wN_nw {k : Nat} (h : k < 4294967296) : wN (nw k) = k := by
  unfold wN nw
  rw [BitVec.toNat_ofNat]
  omega
theorem nw_succ (k : Nat) : wAdd (nw k) w1 = nw (k + 1) := by
  unfold wAdd w1 nw
  apply BitVec.eq_of_toNat_eq
  simp
theorem wN_pow {n : Nat} (h : n < 32) : wN (wShl w1 n) = (2 ^ n : Nat) := by
  unfold wN
  rw [wN_shl1 h]
/-- Of the tests on word x at place i = t.length: those of the first j players. -/
def okTo (sc : List Int) (t : List (BitVec 32)) (x : BitVec 32) (j : Nat) : Bool :=
  ((pop x : Int) == sc.getD t.length 0) && !bitB x t.length && (List.range j).all fun j => bitB x j != bitB (lw t j) t.length
def firstW {β : Type} (m : Nat) (g : Nat → Option β) : Option β := (List.range m).findSome? g
theorem firstW_succ {β : Type} (m : Nat) (g : Nat → Option β) : firstW (m + 1) g = (firstW m g).or (g m) := by
  unfold firstW
  rw [List.range_succ, List.findSome?_append]
  simp
theorem firstW_some {β : Type} {m k : Nat} {g : Nat → Option β} (hk : k < m) (h0 : firstW k g = none) {b : β} (hb : g k = some b) : firstW m g = some b := by
  induction m with
  | zero => omega
  | succ m ih =>
    rw [firstW_succ]
    by_cases h : k = m
    · subst h; rw [h0, hb]; rfl
    · rw [ih (by omega)]; rfl
def solve (sc : List Int) : Nat → List (BitVec 32) → Option (List (BitVec 32))
  | 0, t => some t
  | f + 1, t => firstW (2 ^ sc.length) fun k => if okTo sc t (nw k) t.length then solve sc f (t ++ [nw k]) else none
theorem firstW_from {β : Type} {g : Nat → Option β} {b : β} : ∀ {m : Nat}, firstW m g = some b → ∃ k, k < m ∧ g k = some b
  | 0, h => by simp [firstW] at h
  | m + 1, h => by
    rw [firstW_succ] at h
    rcases hm : firstW m g with _ | c
    · rw [hm] at h
      exact ⟨m, by omega, h⟩
    · rw [hm] at h
      obtain ⟨k, hk, hg⟩ := firstW_from hm
      injection h with h
      exact ⟨k, by omega, by rw [hg, h]⟩
theorem solve_length (sc : List Int) : ∀ (f : Nat) (t u : List (BitVec 32)), solve sc f t = some u → u.length = t.length + f
  | 0, t, u, h => by
    injection h with h
    rw [h, Nat.add_zero]
  | f + 1, t, u, h => by
    obtain ⟨k, _, hg⟩ := firstW_from h
    split at hg
    · have := solve_length sc f _ _ hg
      simp at this
      omega
    · cases hg
theorem okTo_succ (sc : List Int) (t : List (BitVec 32)) (x : BitVec 32) (j : Nat) : okTo sc t x (j + 1) = (okTo sc t x j && (bitB x j != bitB (lw t j) t.length)) := by
  unfold okTo
  rw [List.range_succ, List.all_append, ← Bool.and_assoc]
  simp

set_option maxRecDepth 100000 in
set_option maxHeartbeats 1000000 in
theorem ref_played (sc : List Int) (A : Option Addr) (n c : Nat) (hsc : sc.length = n) (hn : n ≤ 6) : ∀ (f : Nat) (t : List (BitVec 32)) (T : Option Addr) (m cT : Nat) (w : World), t.length = m → m + f = n →
    Els w w.heap.size 1 scell A sc → Els w w.heap.size 1 pcell T t →
    Calls Try.prog 59 #[.slice A n c, .slice T m cT] w fun e w' => ∃ A' k cap, e = .returned (.slice A' k cap) ∧ Below w.heap.size w w' ∧ Els w' w'.heap.size 1 pcell A' ((solve sc f t).getD []) ∧ ((solve sc f t).getD []).length = k := by
  intro f
  induction f with
  | zero =>
    intro t T m cT w ht hf hr hT
    obtain rfl : m = n := by omega
    have HT := Lib.hid ht
    clear ht
    go_enter Try.func59, Try.ntmps59
    go_wp2_with fail
    go_ret
    exact ⟨_, _, _, rfl, Below.refl _ _, hT, HT.out⟩
  | succ f ih =>
    intro t T m cT w ht hf hr hT
    have HIH := Lib.hid ih
    have HS : Hid (solve sc (f + 1) t = firstW (2 ^ n) fun k => if okTo sc t (nw k) m then solve sc f (t ++ [nw k]) else none) := by
      show solve sc (f + 1) t = _
      rw [solve, hsc, ht]
    have HT := Lib.hid ht
    have HSC := Lib.hid hsc
    have hmn : m < n := by omega
    have hpw : wN (wShl w1 n) = (2 ^ n : Nat) := wN_pow (by omega)
    have hp64 : 2 ^ n ≤ 64 := by
      have := Nat.pow_le_pow_right (show 0 < 2 by omega) hn
      simpa using this
    obtain ⟨N, hN⟩ : ∃ N, N = 2 ^ n := ⟨_, rfl⟩
    rw [← hN] at hpw hp64 HS
    have HPW := Lib.hid hpw
    have hmn' : ((m : Int) == (n : Int)) = false := by simp; omega
    clear hpw hN ht hsc ih
    go_enter Try.func59, Try.ntmps59
    go_wp2_with fail
    go_loopw [6] (fun i wr => ∃ k : Nat, k ≤ N ∧ i = .int .u32 (wN (nw k)) ∧ Below w.heap.size w wr ∧ (firstW k fun k => if okTo sc t (nw k) m then solve sc f (t ++ [nw k]) else none) = none) (fun i _ => N - (intOf i).toNat)
    case atStart => exact ⟨0, by omega, rfl, Below.refl _ _, rfl⟩
    case round =>
      rename World => wk
      obtain ⟨k, hk, rfl, hb, hno⟩ := hrel
      have HK := Lib.hid hno
      have hkw := wN_nw (k := k) (by omega)
      have hkw1 := wN_nw (k := k + 1) (by omega)
      have hsz := hb.size
      have HB := Lib.hid hb
      have hsucc := nw_succ k
      clear hno hb
      by_cases hlt : k < N
      · have hml : m < sc.length := by rw [HSC.out]; exact hmn
        obtain ⟨b, off, rfl, hbb, g0⟩ := (hr.below HB.out).at1 hml
        have hs0 : (sc[m] : Int) = sc.getD m 0 := (getD_at sc m hml 0).symm
        obtain ⟨x, hx⟩ : ∃ x, x = nw k := ⟨_, rfl⟩
        obtain ⟨s, hs⟩ : ∃ s, s = sc[m] := ⟨_, rfl⟩
        rw [← hs] at g0
        have HX := Lib.hid hx
        have hok0 : okTo sc t x 0 = (((pop x : Int) == s) && !bitB x m) := by
          unfold okTo
          rw [HT.out, ← hs0, ← hs]
          simp
        have HOK := Lib.hid hok0
        rw [← hx] at hkw hsucc
        have HKW := Lib.hid hkw
        have HSU := Lib.hid hsucc
        have HKW1 := Lib.hid hkw1
        have hlt' : wN x < wN (wShl w1 n) := by rw [hkw, HPW.out]; omega
        clear hs0 hs hok0 hx hsucc hkw1 hkw
        rw [← HX.out]
        go_wp2_with fail
        have hq : ∀ (ok : Bool), ok = okTo sc t x 0 → (((pop x : Int) == s) = ok ∧ ok = false ∨ ((pop x : Int) == s) = true ∧ bitB x m = !ok) := by
          intro ok hk
          rw [HOK.out] at hk
          cases h1 : ((pop x : Int) == s)
          · left; rw [h1] at hk; simp at hk; exact ⟨hk.symm, hk⟩
          · right; rw [h1] at hk; simp at hk; exact ⟨rfl, by rw [hk]; simp⟩
        obtain ⟨ok0, hok0⟩ : ∃ ok, ok = okTo sc t x 0 := ⟨_, rfl⟩
        have HO0 := Lib.hid hok0
        have hq' := hq ok0 hok0
        clear hq hok0
        have htm := HT.out
        rcases hq' with ⟨hq1, rfl⟩ | ⟨hq1, hq2⟩
        all_goals
          clear htm
          go_quiet (first
            | (go_at_call 70; exact quietL (Size_any _ _))
            | (go_at_call 47; exact quietL (Bit_any _ _ _)))
          go_wp2_with fail
          go_loopw [8, 9] (fun o i wr => ∃ (j q : Nat), j ≤ m ∧ o = .bool (okTo sc t x j) ∧ i = .int .i64 j ∧ wr = wk.drewN q) (fun _ i _ => m - (intOf i).toNat)
          case atStart => exact ⟨0, nq, by omega, by rw [← HO0.out], rfl, rfl⟩
          case round =>
            clear HO0
            obtain ⟨j, q, hj, rfl, rfl, rfl⟩ := hrel
            by_cases hjm : j < m
            · have hjl : j < t.length := by rw [HT.out]; exact hjm
              obtain ⟨b', off', rfl, hbb', g1⟩ := (hT.below HB.out).at1 hjl
              obtain ⟨y, hy⟩ : ∃ y, y = t[j] := ⟨_, rfl⟩
              rw [← hy] at g1
              have HOS : Hid (okTo sc t x (j + 1) = (okTo sc t x j && (bitB x j != bitB y m))) := by
                show okTo sc t x (j + 1) = _
                rw [okTo_succ, HT.out, lw_at t j hjl, hy]
              clear hy
              rcases ho : okTo sc t x j with _ | _
              · have HO := Lib.hid ho
                clear ho
                go_wp2_with fail
                go_quiet ((go_at_call 47; exact quietAL (Bit_any _ _ _)))
                go_wp2_with fail
                refine ⟨⟨j + 1, q + nq, by omega, by rw [HOS.out, HO.out]; rfl, by go_num, by first | rfl | rw [World.drewN_drewN]⟩, by simp [intOf]; omega⟩
              · have HO := Lib.hid ho
                clear ho
                go_wp2_with fail
                go_quiet ((go_at_call 47; exact quietAL (Bit_any _ _ _)))
                go_wp2_with fail
                refine ⟨⟨j + 1, q + nq, by omega, by rw [HOS.out, HO.out]; rfl, by go_num, by first | rfl | rw [World.drewN_drewN]⟩, by simp [intOf]; omega⟩
            · obtain rfl : j = m := by omega
              rcases ho : okTo sc t x j with _ | _
              · have HO := Lib.hid ho
                clear ho
                go_wp2_with fail
                go_roundw
                case rel => exact ⟨k + 1, by omega, by rw [HSU.out], below_drewN HB.out q, by rw [firstW_succ, HK.out, ← HX.out, HO.out]; rfl⟩
                case measure =>
                  rw [HSU.out]
                  simp [intOf]
                  rw [HKW.out, HKW1.out]
                  omega
              · have HO := Lib.hid ho
                clear ho
                have hO1 : Own ((wk.drewN q).alloc (.cells #[] 66)) wk.heap.size 66 1 pcell (some ⟨wk.heap.size, 0, none⟩) 0 ([] : List (BitVec 32)) :=
                  Own.lit (f := pcell) (c := 1) (wk.drewN q) wk.heap.size 66 #[] (fun _ => rfl) [] 0 rfl rfl (by unfold maxLen; omega) (Nat.le_refl _)
                have HO1 := Lib.hid hO1
                have hT2 : Els ((wk.drewN q).alloc (.cells #[] 66)) w.heap.size 1 pcell T t := (hT.below HB.out).below ((below_drewN (Below.refl w.heap.size wk) q).alloc (show w.heap.size ≤ wk.heap.size from hsz) _)
                have HT2 := Lib.hid hT2
                have hB1 : Below w.heap.size w ((wk.drewN q).alloc (.cells #[] 66)) := (below_drewN HB.out q).alloc (show w.heap.size ≤ wk.heap.size from hsz) _
                have HB1 := Lib.hid hB1
                clear hO1 hT2 hB1
                go_wp2_with (first
                  | (at_builtin; go_loud (refine wpList_append_els rfl (.tmp 60) (.tmp 61) _ rfl wk.heap.size 1 66 (.int .u32 0) 4 Try.underlying33 (by kernel_rfl) rfl (by omega) pcell _ (some ⟨wk.heap.size, 0, none⟩) 0 0 [] rfl rfl HO1.out _ _ _ t HT.out rfl w.heap.size HT2.out (one_flat (fun a u hu => by simp at hu; rw [hu]; rfl) _) (by unfold maxLen; omega) (by omega) (by rw [size_alloc']; exact Nat.le_succ _) ?_; intro A2 cap2 w5 hown2 hgrow2 hloc2))
                  | (at_builtin; go_loud (refine wpList_push rfl (.tmp 62) (.tmp 64) _ rfl wk.heap.size 1 66 (.int .u32 0) 4 Try.underlying33 (by kernel_rfl) rfl (by omega) pcell w5 #[.int .u32 (wN x)] A2 _ cap2 ([] ++ t) (by simpa using HT.out) rfl hown2 1 [x] rfl rfl _ rfl rfl (by simp [Value.oneCell']) (by unfold maxLen; omega) (by omega) (by have := hgrow2.size; rw [size_alloc'] at this; have h2 : (wk.drewN q).heap.size = wk.heap.size := rfl; omega) ?_; intro A3 cap3 w6 hown3 hgrow3 hloc3)))
                have hz5 : wk.heap.size < w5.heap.size := by
                  have := hgrow2.size
                  rw [size_alloc'] at this
                  have h2 : (wk.drewN q).heap.size = wk.heap.size := rfl
                  omega
                have hg5 : ∀ g, blkOf (some ⟨wk.heap.size, 0, none⟩) = some g → w.heap.size ≤ g := by
                  intro g hg
                  have hg' : wk.heap.size = g := by simpa [blkOf] using hg
                  omega
                have hB5 := HB1.out.grown hgrow2 HB1.out.size hg5
                have hB5' := hB5.alloc hB5.size (.cells #[.int .u32 (wN x)] 66)
                have hB6 := hB5'.grown hgrow3 hB5'.size (fun g hg => by have := (hown2.lt g hg).1; omega)
                have hz6 := hB6.size
                have HB6 := Lib.hid hB6
                have hl3 : ([] ++ t ++ [x]).length = j + 1 := by simp [HT.out]
                have hcall := HIH.out ([] ++ t ++ [x]) A3 (j + 1) cap3 w6 hl3 (by omega) ((hr.below hB6).more hz6) hown3.els
                have HCALL := Lib.hid hcall
                clear hg5 hB5 hB5' hB6 hl3 hcall hown2 hown3 hgrow2 hgrow3 hloc2 hloc3
                refine HCALL.out.mono ?_
                clear HCALL
                rintro e w7 ⟨A4, k4, cap4, rfl, hb7, hels7, hk7⟩
                have HB7 := Lib.hid (HB6.out.trans (hb7.mono hz6))
                have HE7 := Lib.hid hels7
                have HK7 := Lib.hid hk7
                clear hb7 hels7 hk7
                rcases hsol : solve sc f ([] ++ t ++ [x]) with _ | u
                · have hk0 : k4 = 0 := by rw [← HK7.out, hsol]; rfl
                  subst hk0
                  have HSOL := Lib.hid hsol
                  clear hsol
                  go_wp2_with fail
                  go_roundw
                  case rel =>
                    refine ⟨k + 1, by omega, by rw [HSU.out], HB7.out, ?_⟩
                    rw [firstW_succ, HK.out, ← HX.out, HO.out]
                    have := HSOL.out
                    simp at this
                    simp [this]
                  case measure =>
                    rw [HSU.out]
                    simp [intOf]
                    rw [HKW.out, HKW1.out]
                    omega
                · have hu : u.length = n := by
                    have := solve_length sc f _ u hsol
                    simp [HT.out] at this
                    omega
                  have hkn : k4 = n := by rw [← HK7.out, hsol]; exact hu
                  subst hkn
                  have HF : Hid (solve sc (f + 1) t = some u) := by
                    show solve sc (f + 1) t = some u
                    rw [HS.out]
                    refine firstW_some hlt HK.out ?_
                    rw [← HX.out, HO.out]
                    simpa using hsol
                  have HU := Lib.hid hu
                  have HSOL := Lib.hid hsol
                  clear hsol hu
                  go_wp2_with fail
                  go_ret
                  refine ⟨_, _, _, rfl, HB7.out, ?_, by rw [HF.out]; exact HU.out⟩
                  rw [HF.out]
                  have := HE7.out
                  rwa [HSOL.out] at this
      · obtain rfl : k = N := by omega
        have hge : ¬ wN (nw k) < wN (wShl w1 n) := by rw [hkw, HPW.out]; omega
        have HF : Hid (solve sc (f + 1) t = none) := HS.out.trans HK.out
        clear hkw hkw1 hsucc
        go_wp2_with fail
        refine bodyPost_ret (v := .slice none 0 0) (by simp [results, Try.results59, go_sem]) rfl ?_
        exact ⟨none, 0, ⟨0, rfl⟩, HB.out, by rw [HF.out]; exact Els.nil, by rw [HF.out]; rfl⟩

set_option maxRecDepth 100000 in
theorem ref_Played (sc : List Int) (A : Option Addr) (n c : Nat) (hsc : sc.length = n) (hn : n ≤ 6) (w : World) (hr : Els w w.heap.size 1 scell A sc) :
    Calls Try.prog 33 #[.slice A n c] w fun e w' => ∃ A' k cap, e = .returned (.tuple #[.slice A' k cap, .bool (solve sc n []).isSome]) ∧ Below w.heap.size w w' ∧ Els w' w'.heap.size 1 pcell A' ((solve sc n []).getD []) ∧ ((solve sc n []).getD []).length = k := by
  have HP := Lib.hid (ref_played sc A n c hsc hn n [] none 0 0 w rfl (by omega) hr Els.nil)
  clear hr
  go_enter Try.func33, Try.ntmps33
  go_wp2_with fail
  refine HP.out.mono ?_
  clear HP
  rintro e w1 ⟨A1, k1, cap1, rfl, hb, hels, hk⟩
  have hq : ((k1 : Int) == (n : Int)) = (solve sc n []).isSome := by
    rcases h : solve sc n [] with _ | u
    · rw [h] at hk
      have hk0 : k1 = 0 := hk.symm
      have hn0 : n ≠ 0 := by
        rintro rfl
        simp [solve] at h
      simp
      omega
    · rw [h] at hk
      have := solve_length sc n [] u h
      simp at hk this
      simp
      omega
  have HB := Lib.hid hb
  have HE := Lib.hid hels
  have HK := Lib.hid hk
  have HQ := Lib.hid hq
  clear hb hels hk hq
  go_wp2_with fail
  go_ret2
  exact ⟨A1, k1, cap1, by rw [HQ.out]; rfl, HB.out, HE.out, HK.out⟩
end Go.Proofs.Ytaldkafibemhnaa
