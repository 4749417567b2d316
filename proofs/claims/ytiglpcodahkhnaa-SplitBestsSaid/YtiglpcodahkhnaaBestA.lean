/- How early all can be done: the reference's walks. Conditions: the times and the hands read as lists. -/
import Derived.Test.YtiglpcodahkhnaaBestP
import Derived.Test.YtiglpcodahkhnaaSplitA
import Derived.Test.YtiglpcodahkhnaaSplitE
import Derived.Test.YtiglpcodahkhnaaSnoc
namespace Go.Proofs.Ytiglpcodahkhnaa
open Go.RowKit

set_option maxRecDepth 100000 in
theorem ref_Unlike (A : Option Addr) (n c : Nat) (l : List Int) (B : Nat) (w : World) (hl : l.length = n) (hn : n ≤ 64) (hc : n ≤ c) (hr : Els w B 1 icell A l) :
    Calls Try.prog 57 #[.slice A n c] w fun e w' => e = .returned (.int .i64 (unlT l n : Nat)) ∧ w = w' := by
  have HL := Lib.hid hl
  clear hl
  go_enter Try.func57, Try.ntmps57
  go_wp2_with fail
  go_loop [3, 8] (fun m i => ∃ k : Nat, k ≤ n ∧ i = .int .i64 k ∧ m = .int .i64 (unlT l k : Nat)) (fun _ i => n - (intOf i).toNat)
  case atStart => exact ⟨0, by omega, rfl, rfl⟩
  case round =>
    obtain ⟨k, hk, rfl, rfl⟩ := hrel
    have hu := unlT_le l k
    by_cases hlt : k < n
    · have hkl : k < l.length := by rw [HL.out]; exact hlt
      have hs : unlT l (k + 1) = unlT l k + if hasB (l.take k) (l.getD k 0) then 0 else 1 := rfl
      have HC := Lib.hid (Has_any A k c (l.take k) (l.getD k 0) B w (by rw [List.length_take, HL.out]; omega) (by unfold maxLen; omega) (hr.pre k))
      obtain ⟨b, off, rfl, hbb, g0⟩ := hr.at1 hkl
      rw [← getD_at l k hkl 0] at g0
      obtain ⟨x, hx⟩ : ∃ x, x = l.getD k 0 := ⟨_, rfl⟩
      rw [← hx] at g0 hs HC
      have HS := Lib.hid hs
      clear hs hx
      rcases bool_or (hasB (l.take k) x) with hh | hh
      · rw [hh] at HC
        have HH := Lib.hid hh
        clear hh
        go_wp2_with fail
        refine HC.out.mono ?_
        rintro e w' ⟨rfl, rfl⟩
        go_wp2_with fail
        go_round
        case rel => exact ⟨k + 1, by omega, by go_num, by rw [HS.out, HH.out]; go_num⟩
        case measure => simp [intOf]; omega
      · rw [hh] at HC
        have HH := Lib.hid hh
        clear hh
        go_wp2_with fail
        refine HC.out.mono ?_
        rintro e w' ⟨rfl, rfl⟩
        go_wp2_with fail
        go_round
        case rel => exact ⟨k + 1, by omega, by go_num, by rw [HS.out, HH.out]; rfl⟩
        case measure => simp [intOf]; omega
    · obtain rfl : k = n := by omega
      go_wp2_with fail
      go_ret
      exact ⟨rfl, rfl⟩

set_option maxRecDepth 100000 in
set_option maxHeartbeats 1000000 in
theorem ref_BestEnd (sz : List Int) (H : Nat) (A : Option Addr) (n c : Nat) (hn : sz.length = n) (h8 : n ≤ 8) (hH : 1 ≤ H) (hH4 : H ≤ 4) (hb : ∀ i, 0 ≤ sz.getD i 0 ∧ sz.getD i 0 ≤ 1048576) :
    ∀ (r : Nat) (l : List Int) (u m d : Nat) (B : Option Addr) (w : World), l.length = m → m + r = n → m ≤ d → Canon l u → u ≤ H → Els w w.heap.size 1 icell A sz → Els w w.heap.size 1 icell B l →
      Calls Try.prog 17 #[.slice A n c, .int .i64 H, .slice B m d] w fun e w' => e = .returned (.int .i64 (beV sz H r l u)) ∧ Below w.heap.size w w' := by
  intro r
  induction r with
  | zero =>
    intro l u m d B w hl hm hd hcan hu hr hR
    obtain rfl : m = n := by omega
    have HE := Lib.hid (ref_End sz l H A B m c d w.heap.size w.heap.size w hn hl h8 hH4 hb hr hR)
    clear hl hr hR hb hcan hn
    go_enter Try.func17, Try.ntmps17
    go_wp2_with fail
    refine HE.out.mono ?_
    rintro e w' ⟨rfl, rfl⟩
    go_wp2_with fail
    go_ret
    exact ⟨rfl, Below.refl _ _⟩
  | succ r ih =>
    intro l u m d B w hl hm hd hcan hu hr hR
    have hun := hcan.unl
    rw [hl] at hun
    have hcu := ref_Unlike B m d l w.heap.size w hl (by omega) hd hR
    rw [hun] at hcu
    have HU := Lib.hid hcu
    obtain ⟨g, hg⟩ : ∃ g : Nat → Int, g = fun h : Nat => beV sz H r (l ++ [(h : Int)]) (nxU u h) := ⟨_, rfl⟩
    have HV : Hid (beV sz H (r + 1) l u = bestTo g (min (u + 1) H)) := by
      show beV sz H (r + 1) l u = _
      rw [hg]
      exact beV_s sz H r l u
    have HIH : Hid (∀ k, k < min (u + 1) H → ∀ (A3 : Option Addr) (cap3 : Nat) (w6 : World), m + 1 ≤ cap3 → Els w6 w6.heap.size 1 icell A sz → Els w6 w6.heap.size 1 icell A3 (l ++ [(k : Int)]) →
        Calls Try.prog 17 #[.slice A n c, .int .i64 H, .slice A3 (m + 1 : Nat) cap3] w6 fun e w' => e = .returned (.int .i64 (g k)) ∧ Below w6.heap.size w6 w') := Lib.hid (by
      intro k hk A3 cap3 w6 h1 h2 h3
      rw [hg]
      refine ih (l ++ [(k : Int)]) (nxU u k) (m + 1) cap3 A3 w6 (by simp [hl]) (by omega) h1 ?_ ?_ h2 h3
      · unfold nxU
        split
        · exact .old hcan (by omega)
        · obtain rfl : k = u := by omega
          exact .new hcan
      · unfold nxU
        split <;> omega)
    have HL := Lib.hid hl
    have HR := Lib.hid hr
    have HRL := Lib.hid hR
    have hnm : ¬ m = n := by omega
    clear hl hr hR hb hcan hn hun hcu hg ih
    go_enter Try.func17, Try.ntmps17
    go_wp2_with fail
    refine HU.out.mono ?_
    clear HU
    rintro e w' ⟨rfl, rfl⟩
    go_wp2_with fail
    go_loopw [9, 8] (fun s9 s8 wr => ∃ k : Nat, k ≤ min (u + 1) H ∧ s9 = .int .i64 k ∧ s8 = .int .i64 (bestTo g k) ∧ Below w.heap.size w wr) (fun s9 _ _ => 5 - (intOf s9).toNat)
    case atStart => exact ⟨0, by omega, rfl, rfl, Below.refl _ _⟩
    case round =>
      rename World => wr
      obtain ⟨k, hk, rfl, rfl, hbw⟩ := hrel
      have hz := hbw.size
      have HB := Lib.hid hbw
      have hs : bestTo g (k + 1) = if bestTo g k < 0 ∨ g k < bestTo g k then g k else bestTo g k := rfl
      have HS := Lib.hid hs
      clear hs hbw
      by_cases hlt : k < min (u + 1) H
      · have hku : k ≤ u := by omega
        have hkH : k < H := by omega
        have HO0 := Lib.hid (Own.empty wr 3 1 icell (fun _ => rfl))
        have HR1 := Lib.hid (HRL.out.below (HB.out.alloc hz (.cells #[] 3)))
        obtain ⟨z, hzz⟩ : ∃ z, z = bestTo g k := ⟨_, rfl⟩
        rw [← hzz] at HS ⊢
        have HZ := Lib.hid hzz
        clear hzz
        go_wp2_with (first
          | (at_builtin; go_loud (refine wpList_append_els rfl (.tmp 34) (.tmp 35) _ rfl wr.heap.size 1 3 (.int .i64 0) 8 Try.underlying65 (by kernel_rfl) rfl (by omega) icell _ (some ⟨wr.heap.size, 0, none⟩) 0 0 [] rfl rfl HO0.out _ _ _ l HL.out rfl w.heap.size HR1.out (one_flat (fun a u hu => by simp at hu; rw [hu]; rfl) _) (by unfold maxLen; omega) (by omega) (by rw [size_alloc']; exact Nat.le_succ _) ?_; intro A2 cap2 w5 hown2 hgrow2 hloc2))
          | (at_builtin; go_loud (refine wpList_push rfl (.tmp 36) (.tmp 38) _ rfl wr.heap.size 1 3 (.int .i64 0) 8 Try.underlying65 (by kernel_rfl) rfl (by omega) icell w5 #[.int .i64 k] A2 _ cap2 ([] ++ l) (by simpa using HL.out) rfl hown2 1 [(k : Int)] rfl rfl _ rfl rfl (by simp [Value.oneCell']) (by unfold maxLen; omega) (by omega) (snoc_size rfl hgrow2) ?_; intro A3 cap3 w6 hown3 hgrow3 hloc3)))
        obtain ⟨b6, o6, z6⟩ := snoc_done rfl hown2 hgrow2 hown3 hgrow3
        have hb6 := HB.out.trans (b6.mono hz)
        have HB6 := Lib.hid hb6
        have hz6 := hb6.size
        have HC := Lib.hid (HIH.out k hlt A3 cap3 w6 (by have := o6.cap_le; rw [List.length_append, HL.out] at this; exact this) ((HR.out.below hb6).more hz6) o6.els)
        clear hown2 hgrow2 hown3 hgrow3 hloc2 hloc3 b6 o6 hb6
        refine HC.out.mono ?_
        clear HC
        rintro e w7 ⟨rfl, hb7⟩
        have HB7 := Lib.hid (HB6.out.trans (hb7.mono hz6))
        clear hb7
        obtain ⟨x, hx⟩ : ∃ x, x = g k := ⟨_, rfl⟩
        rw [← hx] at HS ⊢
        have HX := Lib.hid hx
        clear hx
        by_cases h1 : z < 0
        · go_wp2_with fail
          go_roundw
          case rel => exact ⟨k + 1, by omega, by go_num, by rw [HS.out, if_pos (.inl h1)], HB7.out⟩
          case measure => simp [intOf]; omega
        · by_cases h2 : x < z
          · go_wp2_with fail
            go_roundw
            case rel => exact ⟨k + 1, by omega, by go_num, by rw [HS.out, if_pos (.inr h2)], HB7.out⟩
            case measure => simp [intOf]; omega
          · go_wp2_with fail
            go_roundw
            case rel => exact ⟨k + 1, by omega, by go_num, by rw [HS.out, if_neg (by omega)], HB7.out⟩
            case measure => simp [intOf]; omega
      · obtain hke : k = min (u + 1) H := by omega
        have HV2 : Hid (beV sz H (r + 1) l u = bestTo g k) := by
          show beV sz H (r + 1) l u = bestTo g k
          rw [hke]
          exact HV.out
        by_cases hku : k ≤ u
        · have hkH : ¬ k < H := by omega
          clear hke
          go_wp2_with fail
          go_ret
          exact ⟨ret_i64 HV2.out.symm, HB.out⟩
        · clear hke
          go_wp2_with fail
          go_ret
          exact ⟨ret_i64 HV2.out.symm, HB.out⟩
end Go.Proofs.Ytiglpcodahkhnaa
