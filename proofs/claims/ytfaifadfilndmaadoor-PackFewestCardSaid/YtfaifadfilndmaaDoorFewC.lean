/- How few boxes: the program's table. Conditions: the sizes read as a list; the table of the bits. -/
import Derived.Test.YtfaifadfilndmaaDoorFewB
import Derived.Test.YtfaifadfilndmaaDoorHeld
import Derived.Test.YtfaifadfilndmaaDoorMade
import Derived.Test.YtfaifadfilndmaaDoorOwnIn
import Derived.BigRegionIn
import Derived.Sort.QuietIn
import Derived.IntWalk
namespace Go.Proofs.YtfaifadfilndmaaDoor
open Go.RowKit Go.Shelf
attribute [local go_sem] Oper.semAt_some
attribute [local go_sem ↓] n_shlp

/-- The table by now: each set below k with its entry. -/
def TabIs (room : Int) (sz : Nat → Int) (N k : Nat) (cs : Array Value) : Prop :=
  cs.size = N * 2 ∧ ∀ j, j < k → ∃ b : FSt, FMin room sz (bitsL (nw j)) b ∧ cs[j * 2]? = some (.int .i64 b.1) ∧ cs[j * 2 + 1]? = some (.int .i64 b.2)
theorem TabIs.set {room : Int} {sz : Nat → Int} {N k i : Nat} {cs : Array Value} {v : Value} (h : TabIs room sz N k cs) (hi : k * 2 ≤ i) : TabIs room sz N k (cs.setIfInBounds i v) := by
  refine ⟨by rw [Array.size_setIfInBounds]; exact h.1, fun j hj => ?_⟩
  obtain ⟨b, h1, h2, h3⟩ := h.2 j hj
  refine ⟨b, h1, ?_, ?_⟩
  · rw [Array.getElem?_setIfInBounds_ne (by omega)]; exact h2
  · rw [Array.getElem?_setIfInBounds_ne (by omega)]; exact h3

theorem TabIs.next {room : Int} {sz : Nat → Int} {n N k : Nat} {cs : Array Value} (hr : 0 ≤ room) (hs : ∀ i, 0 ≤ sz i ∧ sz i ≤ room) (h8 : n ≤ 8) (hN : N = pw n) (hk1 : 1 ≤ k) (hk : k < N) (h : TabIs room sz N k cs)
    (h0 : cs[k * 2]? = some (.int .i64 (curF room sz (bitsL (nw k)) ((n + 1 : Nat), 0) (bitsL (nw k))).1)) (h1 : cs[k * 2 + 1]? = some (.int .i64 (curF room sz (bitsL (nw k)) ((n + 1 : Nat), 0) (bitsL (nw k))).2)) : TabIs room sz N (k + 1) cs := by
  have hkn : k < 2 ^ n := by
    have : N = 2 ^ n := hN
    omega
  refine ⟨h.1, fun j hj => ?_⟩
  by_cases hjk : j < k
  · exact h.2 j hjk
  · obtain rfl : j = k := by omega
    refine ⟨_, cur_min hr hs (fun e => ?_) ?_ (fun i hi => ?_), h0, h1⟩
    · have hz : j = 0 := Nat.eq_of_testBit_eq fun x => by
        rw [Nat.zero_testBit]
        cases hb : j.testBit x with
        | false => rfl
        | true =>
          have := (few_bit h8 hkn).2 hb
          rw [e] at this
          cases this
      omega
    · have := (bits_nodup (nw j)).length_le_of_subset (l₂ := List.range n) (fun i hi => List.mem_range.2 (few_lt h8 hkn hi))
      rwa [List.length_range] at this
    · obtain ⟨b, hb, _⟩ := h.2 _ (few_less h8 hkn hi)
      exact ⟨b, hb.perm (few_erase h8 hkn hi)⟩
theorem wrap_pw {i : Nat} (h : i < 8) : IntKind.i64.wrap ((2 : Int) ^ i) = ((pw i : Nat) : Int) := by
  have e : ((2 : Int) ^ i) = ((pw i : Nat) : Int) := by unfold pw; rw [Int.natCast_pow]; rfl
  have h2 : pw i ≤ 256 := Nat.pow_le_pow_right (n := 2) (by omega) (show i ≤ 8 by omega)
  rw [e]
  exact IntWalk.i64_in _ (by omega)
theorem pack_ok {sz : List Int} {room : Int} (h : packCheck sz room = 0) : sz.length ≤ 8 ∧ 1 ≤ room ∧ room ≤ 1048576 ∧ ∀ i, 0 ≤ sz.getD i 0 ∧ sz.getD i 0 ≤ room := by
  unfold packCheck at h
  split at h
  · cases h
  · split at h
    · cases h
    · split at h
      · cases h
      · rename_i h0 h1 h2
        refine ⟨by omega, by omega, by omega, fun i => ?_⟩
        by_cases hi : i < sz.length
        · rw [getD_at sz i hi 0]
          have := List.any_eq_false.1 (by simpa using h2) _ (List.getElem_mem hi)
          unfold sizeBad at this
          simp at this
          omega
        · rw [List.getD_eq_getElem?_getD, List.getElem?_eq_none (by omega)]
          simp; omega
set_option maxRecDepth 100000 in
set_option maxHeartbeats 4000000 in
theorem pack_Fewest (sz : List Int) (room : Int) (A : Option Addr) (n c : Nat) (w : World) (hl : sz.length = n) (hn : n ≤ maxLen) (hr : Els w w.heap.size 1 zcell A sz) (htab : TabOk w) :
    Calls Tryd.prog 26 #[.slice A n c, .int .i64 room] w fun e w' => ∃ x : Int, e = .returned (.tuple #[.int .i64 x, .int .i64 (packCheck sz room)]) ∧ Below w.heap.size w w' ∧ (packCheck sz room ≠ 0 → x = 0) ∧ (packCheck sz room = 0 → ∃ b : FSt, FMin room (fun i => sz.getD i 0) (List.range n) b ∧ x = b.1) := by
  obtain ⟨S, hS⟩ : ∃ S, S = w.heap.size := ⟨_, rfl⟩
  obtain ⟨W1, hW1⟩ : ∃ W1, W1 = (w.alloc (.cells #[.slice A n c] 41)).alloc (.cells #[.int .i64 room] 2) := ⟨_, rfl⟩
  have hb1 : Below S w W1 := by rw [hW1, hS]; exact ((Below.refl _ w).alloc (Nat.le_refl _) _).alloc (by rw [size_alloc']; omega) _
  have hk1 : Blk W1 S 41 #[.slice A n c] := by rw [hW1, hS]; exact (Blk.new w _ _).alloc _
  have hk2 : Blk W1 (S + 1) 2 #[.int .i64 room] := by
    have := Blk.new (w.alloc (.cells #[.slice A n c] 41)) 2 #[.int .i64 room]
    rw [size_alloc', ← hS] at this
    rw [hW1]; exact this
  have hz1 : W1.heap.size = S + 2 := by rw [hW1, size_alloc', size_alloc', hS]
  have hr1 : Els W1 S 1 zcell A sz := by rw [hS] at hb1 ⊢; exact hr.below hb1
  have h0w : 0 < S := by rw [hS]; exact Nat.lt_of_le_of_lt (Nat.zero_le _) htab.1
  have ht1 : TabOk W1 := htab.below hb1 h0w
  have c0 := hk1.cell 0
  have c1 := hk2.cell 0
  have HWR := Lib.hid (pack_wrong sz room A n c W1 hl hn (hr1.more (by omega)))
  have HL := Lib.hid hl
  have HR1 := Lib.hid hr1
  have HB1 := Lib.hid hb1
  have HK1 := Lib.hid hk1
  have HK2 := Lib.hid hk2
  have HT1 := Lib.hid ht1
  have HS := Lib.hid hS
  have HW1 := Lib.hid hW1
  clear hr hb1 hk1 hk2 hr1 ht1 htab hl hS hW1
  refine (callsIn_wide (n := 9)).1 ?_
  refine callsIn_of_wp_marks Tryd.func26 rfl trivial ?_ rfl
  simp only [Tryd.ntmps26, List.size_toArray, List.length_cons, List.length_nil, Nat.reduceAdd, Nat.reduceSub, Array.replicate_succ, Array.replicate_zero, List.push_toArray, List.append_toArray, List.nil_append, List.cons_append]
  refine wpIn_wide.2 ?_
  go_wp2_with fail
  rw [← HS.out, ← HW1.out]
  clear HW1
  obtain ⟨R, hR⟩ : ∃ R, R = S + 1 := ⟨_, rfl⟩
  rw [← hR] at HK2 c1 ⊢
  have HR := Lib.hid hR
  clear hR
  refine HWR.out.mono ?_
  clear HWR
  rintro e v1 ⟨rfl, hb2⟩
  have hbv := HB1.out.trans (hb2.mono (by omega))
  have hkv1 := HK1.out.below hb2 (by omega)
  have hkv2 := HK2.out.below hb2 (by have := HR.out; omega)
  have htv := HT1.out.below hb2 (by omega)
  have hrv := HR1.out.below (hb2.mono (by omega))
  have hzv := hb2.size
  have HBV := Lib.hid hbv
  have HKV1 := Lib.hid hkv1
  have HKV2 := Lib.hid hkv2
  have HTV := Lib.hid htv
  have HRV := Lib.hid hrv
  clear hbv hkv1 hkv2 htv hrv hb2 c0 c1
  by_cases h0 : packCheck sz room = 0
  · obtain ⟨h8, hr1, hr2, hsz⟩ := pack_ok h0
    rw [HL.out] at h8
    rw [h0]
    have HZ := Lib.hid h0
    have HSZ := Lib.hid hsz
    have hpw : pw n ≤ 256 := by
      have : pw n ≤ pw 8 := Nat.pow_le_pow_right (by omega) h8
      exact this
    have hpw1 : 1 ≤ pw n := Nat.one_le_two_pow
    obtain ⟨N, hN⟩ : ∃ N, N = pw n := ⟨_, rfl⟩
    have HN := Lib.hid hN
    have hpn : wrap64 ((2 : Int) ^ n) = (N : Int) := by
      have e : ((2 : Int) ^ n) = (N : Int) := by rw [hN]; unfold pw; rw [Int.natCast_pow]; rfl
      rw [e]
      unfold wrap64
      omega
    rw [← hN] at hpw hpw1
    have hi1 : (Tryd.prog.info? 91).map (fun i => (i.zero, i.size, i.bytes)) = some (some (.agg #[.int .i64 0, .int .i64 0]), 2, 16) := rfl
    obtain ⟨i1, a1, b1, c1', d1⟩ := info_parts hi1
    have hm1 : ∀ W : World, (Instr.makeSlice 89 (.int .i64 N) (.int .i64 N)).run Tryd.prog W = .ok (.slice (some ⟨W.heap.size, 0, none⟩) N N) (W.alloc (.cells (madeCells #[.int .i64 0, .int .i64 0] (N * 2)) 91)) := fun W => by
      have := run_make (P := Tryd.prog) W 89 91 i1 (.agg #[.int .i64 0, .int .i64 0]) (by kernel_rfl) a1 b1 .i64 .i64 N N (by omega) (Int.le_refl _) (by rw [d1]; omega) (by omega)
      rw [c1', show (Value.agg #[.int .i64 0, .int .i64 0]).cells = #[Value.int .i64 0, .int .i64 0] from rfl] at this
      simpa using this
    clear hi1 a1 b1 c1' d1 h0 hsz hN
    have c0 := HKV1.out.cell 0
    have c1 := HKV2.out.cell 0
    have hS1 : R < v1.heap.size := HKV2.out.lt
    have hS0 : S < v1.heap.size := HKV1.out.lt
    have hw1 : IntKind.i64.wrap (room + 1) = room + 1 := IntWalk.i64_in _ (by omega)
    obtain ⟨G, hG⟩ : ∃ G, G = v1.heap.size := ⟨_, rfl⟩
    have y0 := (Blk.new v1 91 (madeCells #[.int .i64 0, .int .i64 0] (N * 2))).cell 0
    have y1 := (Blk.new v1 91 (madeCells #[.int .i64 0, .int .i64 0] (N * 2))).cell 1
    have f0 := (Blk.new v1 91 (madeCells #[.int .i64 0, .int .i64 0] (N * 2))).frozen 0
    have f1 := (Blk.new v1 91 (madeCells #[.int .i64 0, .int .i64 0] (N * 2))).frozen 1
    have hcs : (madeCells #[.int .i64 0, .int .i64 0] (N * 2)).size = N * 2 := by simp [madeCells]
    obtain ⟨cs, hcse⟩ : ∃ cs, cs = madeCells #[.int .i64 0, .int .i64 0] (N * 2) := ⟨_, rfl⟩
    rw [← hcse] at y0 y1 f0 f1 hcs
    simp only [← hcse] at hm1
    obtain ⟨u0, hu0⟩ : ∃ u, cs[0]? = some u := ⟨_, Array.getElem?_eq_getElem (by omega)⟩
    obtain ⟨u1, hu1⟩ : ∃ u, cs[1]? = some u := ⟨_, Array.getElem?_eq_getElem (by omega)⟩
    rw [hu0] at y0
    rw [hu1] at y1
    clear hcse hG
    go_wp2_with fail
    clear y0 y1 f0 f1 c0 c1
    obtain ⟨G, hG⟩ : ∃ G, G = v1.heap.size := ⟨_, rfl⟩
    obtain ⟨c2, hc2⟩ : ∃ c2, c2 = (cs.setIfInBounds 0 (.int .i64 0)).setIfInBounds 1 (.int .i64 (room + 1)) := ⟨_, rfl⟩
    rw [← hc2]
    obtain ⟨V, hV⟩ : ∃ V, V = ((v1.alloc (.cells c2 91)).alloc (.cells #[.slice (some ⟨v1.heap.size, 0, none⟩) N N] 89)).alloc (.cells #[.int .i64 1] 3) := ⟨_, rfl⟩
    have hbV : Below G v1 V := by
      rw [hV, hG]
      exact (((Below.refl _ v1).alloc (Nat.le_refl _) _).alloc (by rw [size_alloc']; omega) _).alloc (by rw [size_alloc', size_alloc']; omega) _
    have hkG : Blk V G 91 c2 := by rw [hV, hG]; exact ((Blk.new v1 _ _).alloc _).alloc _
    have hk7 : Blk V (G + 1) 89 #[.slice (some ⟨G, 0, none⟩) N N] := by
      have := Blk.new (v1.alloc (.cells c2 91)) 89 #[.slice (some ⟨v1.heap.size, 0, none⟩) N N]
      rw [size_alloc', ← hG] at this
      rw [hV, ← hG]; exact this.alloc _
    have hk8 : Blk V (G + 2) 3 #[.int .i64 (1 : Nat)] := by
      have := Blk.new ((v1.alloc (.cells c2 91)).alloc (.cells #[.slice (some ⟨v1.heap.size, 0, none⟩) N N] 89)) 3 #[.int .i64 1]
      rw [size_alloc', size_alloc', ← hG] at this
      rw [hV, ← hG]; exact this
    have htI : TabIs room (fun i => sz.getD i 0) N 1 c2 := by
      refine ⟨by rw [hc2, Array.size_setIfInBounds, Array.size_setIfInBounds]; exact hcs, fun j hj => ?_⟩
      obtain rfl : j = 0 := by omega
      refine ⟨(0, room + 1), ?_, ?_, ?_⟩
      · rw [show bitsL (nw 0) = [] from bitsL_0]; exact FMin.nil _ _
      · rw [hc2, Array.getElem?_setIfInBounds_ne (by omega), Array.getElem?_setIfInBounds_self_of_lt (by omega)]
      · rw [hc2, Array.getElem?_setIfInBounds_self_of_lt (by rw [Array.size_setIfInBounds]; omega)]
    have htV : TabOk V := HTV.out.below hbV (by omega)
    have HBVV := Lib.hid hbV
    have HKG := Lib.hid hkG
    have HK7 := Lib.hid hk7
    have HK8 := Lib.hid hk8
    have HTI := Lib.hid htI
    have HTVV := Lib.hid htV
    rw [← hV, ← hG]
    rw [← hG] at hS1 hS0
    have HGG := Lib.hid hG
    clear hbV hkG hk7 hk8 htI htV hV hc2 hcs hu0 hu1 hm1 hG hpn
    refine wpIn_wide.1 (wpIn_loop_marks (F := Fence.wide) (n := 9) [8, 26, 27, 28, 29, 30, 31, 32, 33, 34, 35, 36, 37, 38, 39, 40, 41, 94]
      (fun g ds wr => ∃ (k T8 : Nat) (cs : Array Value), 1 ≤ k ∧ k ≤ N ∧ g 8 = .pointer (some ⟨T8, 0, none⟩) ∧ (intOf (g 31)).toNat ≤ k ∧ Below G v1 wr ∧ Blk wr G 91 cs ∧ TabIs room (fun i => sz.getD i 0) N k cs ∧ Blk wr (G + 1) 89 #[.slice (some ⟨G, 0, none⟩) N N] ∧ Blk wr T8 3 #[.int .i64 k] ∧ G + 1 < T8 ∧ TabOk wr ∧ Marks S ds wr)
      (fun g _ => N - (intOf (g 31)).toNat) ?same ⟨1, G + 2, c2, by omega, hpw1, ?s8, ?s31, HBVV.out, HKG.out, HTI.out, HK7.out, HK8.out, by omega, HTVV.out, Marks.nil _ _⟩ ?round (fun g g' w h => by simp only [h 31 (by simp)]) (by decide) 102 rfl (by decide))
    case same => simp only [patch, slot, List.foldl_cons, List.foldl_nil, List.set_cons_succ, List.set_cons_zero, List.getD_cons_succ, List.getD_cons_zero]
    case s8 => (simp only [slot, List.getD_cons_succ, List.getD_cons_zero]; try rfl)
    case s31 =>
      simp only [slot, List.getD_cons_succ, List.getD_cons_zero]
      exact Nat.zero_le 1
    case round =>
      rintro g ds wr K ⟨k, T8, cs, hk1, hk, hg8, hg31, hb, hkG, htI, hk7, hk8, hT8, ht, hmk⟩ hK
      refine wpIn_wide.2 ?_
      simp only [patch, List.foldl_cons, List.foldl_nil, List.set_cons_succ, List.set_cons_zero, hg8]
      have HG31 := Lib.hid hg31
      have HK := Lib.hid hK
      have HB := Lib.hid hb
      have HKG := Lib.hid hkG
      have HTI := Lib.hid htI
      have HK7 := Lib.hid hk7
      have HK8 := Lib.hid hk8
      have HT := Lib.hid ht
      have HMK := Lib.hid hmk
      have c7 := hk7.cell 0
      have c8 := hk8.cell 0
      have c0 := (HKV1.out.below hb hS0).cell 0
      have c1 := (HKV2.out.below hb hS1).cell 0
      have hG8 := hk8.lt
      clear hK hb hkG hk7 hk8 ht hmk hg8 hg31 HBVV HTVV
      by_cases hlt : k < N
      · have hcsz := HTI.out.1
        obtain ⟨u0, hu0⟩ : ∃ u, cs[k * 2]? = some u := ⟨_, Array.getElem?_eq_getElem (by omega)⟩
        obtain ⟨u1, hu1⟩ : ∃ u, cs[k * 2 + 1]? = some u := ⟨_, Array.getElem?_eq_getElem (by omega)⟩
        have y0 := HKG.out.cell (k * 2)
        have y1 := HKG.out.cell (k * 2 + 1)
        have f0 := HKG.out.frozen (k * 2)
        have f1 := HKG.out.frozen (k * 2 + 1)
        rw [hu0] at y0
        rw [hu1] at y1
        have hTG : T8 ≠ G := by omega
        have hcv : IntKind.u32.wrap (k : Int) = wN (nw k) := by
          have e := wN_nw (k := k) (by omega)
          rw [← e]
          exact wrap_w (nw k)
        have hi0 : cs[k * 2]? = some u0 := hu0
        clear hu0 hu1 htI
        go_wp2_with fail
        refine (graph_Each (nw k) _).mono ?_
        rintro e W3 ⟨rfl, rfl⟩
        go_wp2_with fail
        obtain ⟨B, hB⟩ : ∃ B, B = wr.heap.size := ⟨_, rfl⟩
        obtain ⟨w2, hw2⟩ : ∃ w2, w2 = (wr.setCell ⟨G, k * 2, none⟩ (.int .i64 ((n : Int) + 1))).setCell ⟨G, k * 2 + 1, none⟩ (.int .i64 0) := ⟨_, rfl⟩
        obtain ⟨W2, hW2⟩ : ∃ W2, W2 = w2.alloc (.cells #[.int .u32 (wN (nw k))] 58) := ⟨_, rfl⟩
        obtain ⟨c2, hc2⟩ : ∃ c2, c2 = (cs.setIfInBounds (k * 2) (.int .i64 ((n : Int) + 1))).setIfInBounds (k * 2 + 1) (.int .i64 0) := ⟨_, rfl⟩
        have hs2 : w2.heap.size = B := by rw [hw2, hB]; simp only [World.size_setCell]
        have hbw2 : Below G wr w2 := by rw [hw2]; exact ((Below.refl G wr).setCell (p := ⟨G, k * 2, none⟩) (Nat.le_refl _) _).setCell (p := ⟨G, k * 2 + 1, none⟩) (Nat.le_refl _) _
        have hkG2 : Blk w2 G 91 c2 := by rw [hw2, hc2]; exact (HKG.out.put (k * 2) _).put (k * 2 + 1) _
        have hk72 : Blk w2 (G + 1) 89 #[.slice (some ⟨G, 0, none⟩) N N] := by rw [hw2]; exact (HK7.out.far (p := ⟨G, k * 2, none⟩) (show G + 1 ≠ G by omega) _).far (p := ⟨G, k * 2 + 1, none⟩) (show G + 1 ≠ G by omega) _
        have hk82 : Blk w2 T8 3 #[.int .i64 k] := by rw [hw2]; exact (HK8.out.far (p := ⟨G, k * 2, none⟩) (show T8 ≠ G by omega) _).far (p := ⟨G, k * 2 + 1, none⟩) (show T8 ≠ G by omega) _
        have htI2 : TabIs room (fun i => sz.getD i 0) N k c2 := by rw [hc2]; exact (HTI.out.set (Nat.le_refl _)).set (by omega)
        have hcu : c2[k * 2]? = some (.int .i64 (curF room (fun i => sz.getD i 0) (bitsL (nw k)) ((n + 1 : Nat), 0) []).1) ∧ c2[k * 2 + 1]? = some (.int .i64 (curF room (fun i => sz.getD i 0) (bitsL (nw k)) ((n + 1 : Nat), 0) []).2) := by
          rw [hc2]
          refine ⟨?_, ?_⟩
          · rw [Array.getElem?_setIfInBounds_ne (by omega), Array.getElem?_setIfInBounds_self_of_lt (by omega)]
            rfl
          · rw [Array.getElem?_setIfInBounds_self_of_lt (by rw [Array.size_setIfInBounds]; omega)]
            rfl
        have hmk2 : Marks S ds w2 := by
          rw [hw2]
          refine (HMK.out.setCell (p := ⟨G, k * 2, none⟩) _ (fun o ho => ?_)).setCell (p := ⟨G, k * 2 + 1, none⟩) _ (fun o ho => ?_)
          · intro e
            have := HKG.out.isCells o ho
            rw [e] at this
            cases this
          · intro e
            have := (HKG.out.put (k * 2) (.int .i64 ((n : Int) + 1))).isCells o ho
            rw [e] at this
            cases this
        have ht2 : TabOk w2 := HT.out.below hbw2 (by omega)
        have hbW2 : Below B w2 W2 := by rw [hW2, ← hs2]; exact (Below.refl _ w2).alloc (Nat.le_refl _) _
        have hbx : Boxed W2 B 58 (.int .u32 (wN (nw k))) := by rw [hW2, ← hs2]; exact Boxed.new w2 _ _
        have hGB : G < B := by rw [hB]; exact HKG.out.lt
        have h8B : T8 < B := by rw [hB]; exact hG8
        have hzW2 : W2.heap.size = B + 1 := by rw [hW2, size_alloc', hs2]
        have HKG2 := Lib.hid (hkG2.below hbW2 hGB)
        have HK72 := Lib.hid (hk72.below hbW2 (by omega))
        have HK82 := Lib.hid (hk82.below hbW2 h8B)
        have HTI2 := Lib.hid htI2
        have HCU := Lib.hid hcu
        have HMK2 := Lib.hid (hmk2.below hbW2 (by omega))
        have HBX := Lib.hid hbx
        have HT2 := Lib.hid (ht2.below hbW2 (by omega))
        have HBW := Lib.hid ((HB.out.trans hbw2).trans (hbW2.mono (by omega)))
        rw [← hw2, ← hW2, ← hB]
        clear hw2 hW2 hB hc2 hs2 hbw2 hkG2 hk72 hk82 htI2 hcu hmk2 ht2 hbW2 hbx y0 y1 f0 f1 c7 c8 c0 c1 hi0 HKG HTI HK7 HK8 HT HMK HB hcsz
        refine wpIn_wide.1 (wpIn_bits (p := 42) (q := 9) 9 79 B 58 (.int .u32 (wN (nw k))) (bitsL (nw k)) [B, G] rfl (enters_of Tryd.func79 (by kernel_rfl) rfl)
          (Each1_seq _ _ _ (by omega)) HBX.out HT2.out (by simp) (fun pre W => ∃ cs, Blk W G 91 cs ∧ TabIs room (fun i => sz.getD i 0) N k cs ∧ cs[k * 2]? = some (.int .i64 (curF room (fun i => sz.getD i 0) (bitsL (nw k)) ((n + 1 : Nat), 0) pre).1) ∧ cs[k * 2 + 1]? = some (.int .i64 (curF room (fun i => sz.getD i 0) (bitsL (nw k)) ((n + 1 : Nat), 0) pre).2)) (fun _ _ _ => False)
          (fun s X Y row hs hg hr => by
            obtain ⟨cs, h1, h2⟩ := hs
            exact ⟨cs, blk_kept h1 hg hr, h2⟩)
          (fun _ _ _ _ _ h _ _ => h) (fun s A v h => by
            obtain ⟨cs, h1, h2⟩ := h
            exact ⟨cs, h1.far (p := ⟨B, 0, none⟩) (show G ≠ B by omega) v, h2⟩) ⟨c2, HKG2.out, HTI2.out, HCU.out⟩ ?assign ?body ?done (fun _ _ _ _ _ _ _ h _ => h.elim))
        case assign =>
          intro l' i W K hK
          simp only [List.setIfInBounds_toArray, List.set_cons_succ, List.set_cons_zero] at hK ⊢
          gi_wp2_with fail
          exact hK
        case body =>
          intro l' pre i W hh hi hpre
          obtain ⟨cs, hkG, htI, e0, e1⟩ := hi
          have hmem : i ∈ bitsL (nw k) := by
            obtain ⟨z, hz⟩ := hpre
            rw [← hz]; simp
          have hkn : k < 2 ^ n := by
            have : N = 2 ^ n := HN.out
            omega
          have hin : i < n := few_lt h8 hkn hmem
          have hless := few_less h8 hkn hmem
          have hsub := few_sub h8 hkn hmem
          obtain ⟨b, hbm, t0, t1⟩ := htI.2 _ hless
          have hbe := hbm.perm (few_erase h8 hkn hmem)
          have hgo := gOf_is hbe
          have hbin := hbe.in_ (by omega) HSZ.out
          have hel : ((bitsL (nw k)).erase i).length ≤ 8 := by
            have h1 := (bits_nodup (nw k)).length_le_of_subset (l₂ := List.range n) (fun i hi => List.mem_range.2 (few_lt h8 hkn hi))
            rw [List.length_range] at h1
            have h2 := List.length_erase_of_mem hmem
            omega
          have hcs := curF_snoc room (fun i => sz.getD i 0) (bitsL (nw k)) ((n + 1 : Nat), 0) pre i
          have hnx : nxOf room (fun i => sz.getD i 0) (bitsL (nw k)) i = fStep room b (sz.getD i 0) := by unfold nxOf; rw [hgo]
          rw [hnx] at hcs
          obtain ⟨cur, hcur⟩ : ∃ cur, cur = curF room (fun i => sz.getD i 0) (bitsL (nw k)) ((n + 1 : Nat), 0) pre := ⟨_, rfl⟩
          rw [← hcur] at hcs e0 e1
          have HCS := Lib.hid hcs
          have hbut : bits .andNot .i64 ((k : Nat) : Int) ((pw i : Nat) : Int) = (nXor k (pw i) : Nat) := n_but _ _ (by omega) hsub
          have hpi := wrap_pw (i := i) (by omega)
          obtain ⟨j, hj⟩ : ∃ j, j = nXor k (pw i) := ⟨_, rfl⟩
          rw [← hj] at hbut hless t0 t1
          have hbW : Below G W2 W := hh.to (by omega) (by simp; omega)
          have hbv : Below G v1 W := HBW.out.trans hbW
          have hrW := HRV.out.below (hbv.mono (by omega))
          obtain ⟨ba, oa, hAe, hba, g0⟩ := hrW.at1 (k := i) (by rw [HL.out]; exact hin)
          rw [← getD_at sz i (by rw [HL.out]; exact hin) 0] at g0
          have hsz := HSZ.out i
          obtain ⟨x, hx⟩ : ∃ x, x = sz.getD i 0 := ⟨_, rfl⟩
          rw [← hx] at g0 hsz HCS
          have c0 := (HKV1.out.below hbv hS0).cell 0
          have c1 := (HKV2.out.below hbv hS1).cell 0
          have hk8 := Blk.held hh HK82.out (by simp; omega)
          have hk7 := Blk.held hh HK72.out (by simp; omega)
          have c7 := hk7.cell 0
          have c8 := hk8.cell 0
          have y0 := hkG.cell (j * 2)
          have y1 := hkG.cell (j * 2 + 1)
          have z0 := hkG.cell (k * 2)
          have z1 := hkG.cell (k * 2 + 1)
          have f0 := hkG.frozen (k * 2)
          have f1 := hkG.frozen (k * 2 + 1)
          rw [t0] at y0
          rw [t1] at y1
          rw [e0] at z0
          rw [e1] at z1
          have HE0 := Lib.hid e0
          have HE1 := Lib.hid e1
          have hkc : k * 2 + 1 < cs.size := by have := htI.1; omega
          obtain ⟨b0, b1⟩ := b
          obtain ⟨q0, q1⟩ := cur
          simp only at y0 y1 z0 z1 hbin
          have hGW : G < W.heap.size := hkG.lt
          have hTW : T8 < W.heap.size := hk8.lt
          have hG1W : G + 1 < W.heap.size := hk7.lt
          have HH := Lib.hid hh
          have HKGW := Lib.hid hkG
          have HTIW := Lib.hid htI
          have hjN : j < N := by omega
          subst hAe
          clear hh hkG htI hpre hmem hkn hbm hbe hgo hcs hnx hcur hj hbW hbv hrW hx hk7 hk8 t0 t1 e0 e1 hsub
          simp only [List.setIfInBounds_toArray, List.set_cons_succ, List.set_cons_zero]
          gi_wp2_with fail
          have HFW : Hid (∀ w', Below W.heap.size W w' → w'.cell? ⟨ba, oa + i, none⟩ = some (.int .i64 x) ∧ w'.cell? ⟨S, 0, none⟩ = some (.slice (some ⟨ba, oa, none⟩) n c) ∧ w'.cell? ⟨R, 0, none⟩ = some (.int .i64 room) ∧ w'.cell? ⟨G + 1, 0, none⟩ = some (.slice (some ⟨G, 0, none⟩) N N) ∧ w'.cell? ⟨T8, 0, none⟩ = some (.int .i64 k) ∧ w'.cell? ⟨G, j * 2, none⟩ = some (.int .i64 b0) ∧ w'.cell? ⟨G, j * 2 + 1, none⟩ = some (.int .i64 b1) ∧
              w'.cell? ⟨G, k * 2, none⟩ = some (.int .i64 q0) ∧ w'.cell? ⟨G, k * 2 + 1, none⟩ = some (.int .i64 q1)) := Lib.hid (fun w' hb =>
            ⟨(hb.cell (show ba < _ by omega)).trans g0, (hb.cell (show S < _ by omega)).trans c0, (hb.cell (show R < _ by omega)).trans c1, (hb.cell (show G + 1 < _ by omega)).trans c7, (hb.cell (show T8 < _ by omega)).trans c8, (hb.cell (show G < _ by omega)).trans y0, (hb.cell (show G < _ by omega)).trans y1, (hb.cell (show G < _ by omega)).trans z0, (hb.cell (show G < _ by omega)).trans z1⟩)
          clear g0 c0 c1 c7 c8 y0 y1 z0 z1
          refine region_round 99 9 (fun w' => Below W.heap.size W w') (by kernel_rfl) rfl (by kernel_rfl) ?_
          refine anyC_reads (by kernel_rfl) [0, 1, 2, 3, 4, 5, 6] ?opl ?ohl 2 _ _ _ (by kernel_rfl) ?okk
          case ohl => (simp only [List.filterMap_cons, List.filterMap_nil, List.getElem?_toArray, List.getElem?_cons_zero, List.getElem?_cons_succ]; try rfl)
          repeat (
            refine readC_step (v := ?_) rfl (fun w' hw' => ?_) ?_
            rotate_left
            focus (obtain ⟨p0, p1, p2, p3, p4, p5, p6, p7, p8⟩ := HFW.out w' hw'; go_simp; try with_reducible rfl)
            go_simp)
          refine readC_nil ?_
          refine anyC_one (i := 7) (by kernel_rfl) rfl rfl (.inr (Below.refl _ W).drew) ?_
          go_simp
          refine anyC_one (i := 8) (by kernel_rfl) rfl rfl (.inr (((Below.refl _ W).drew).alloc (Nat.le_refl _) _)) ?_
          go_simp
          refine anyC_end (by kernel_rfl) (.inr (((Below.refl _ W).drew).alloc (Nat.le_refl _) _)) ?_
          obtain ⟨X, hX⟩ : ∃ X, X = (W.alloc (.cells #[.int .i64 b0, .int .i64 b1] 91)).drew := ⟨_, rfl⟩
          obtain ⟨T, hT⟩ : ∃ T, T = W.heap.size := ⟨_, rfl⟩
          have hbX : Below W.heap.size W X := by rw [hX]; exact ((Below.refl _ W).alloc (Nat.le_refl _) _).drew
          have hkX : Blk X T 91 #[.int .i64 b0, .int .i64 b1] := by rw [hX, hT]; exact (Blk.new W _ _).drew
          have HBX2 := Lib.hid hbX
          have HKX := Lib.hid hkX
          have HX := Lib.hid hX
          have HTT := Lib.hid hT
          have hw13 : IntKind.i64.wrap (b1 + x) = b1 + x := IntWalk.i64_in _ (by omega)
          clear hX hbX hkX
          gi_wp2_with fail
          rw [← HX.out]
          rw [← hT]
          clear hT
          refine region_round 99 9 (fun w' => w' = X.drew) (by kernel_rfl) rfl (by kernel_rfl) ?_
          refine anyC_reads (by kernel_rfl) [0, 1, 2, 3, 4, 5, 6, 7, 8] ?opm ?ohm 0 _ _ _ (by kernel_rfl) ?okm
          case ohm => (simp only [List.filterMap_cons, List.filterMap_nil, List.getElem?_toArray, List.getElem?_cons_zero, List.getElem?_cons_succ]; try rfl)
          repeat (
            refine readC_step (v := ?_) rfl (fun w' hw' => ?_) ?_
            rotate_left
            focus (obtain ⟨p0, p1, p2, p3, p4, p5, p6, p7, p8⟩ := HFW.out _ HBX2.out.drew; have k0 := HKX.out.drew.cell 0; have k1 := HKX.out.drew.cell 1; subst hw'; go_simp; try with_reducible rfl)
            go_simp)
          refine readC_nil ?_
          refine anyC_end (by kernel_rfl) (.inr rfl) ?_
          by_cases hgt : room < b1 + x
          · have hd := decide_eq_true hgt
            have HSTP : Hid (fStep room (b0, b1) x = (b0 + 1, x)) := Lib.hid (by unfold fStep; rw [if_pos hgt])
            have hwb : IntKind.i64.wrap (b0 + 1) = b0 + 1 := IntWalk.i64_in _ (by omega)
            have k0 := HKX.out.cell 0
            have k1 := HKX.out.cell 1
            have kf0 := HKX.out.frozen 0
            have kf1 := HKX.out.frozen 1
            gi_wp2_with fail
            obtain ⟨Y, hY⟩ : ∃ Y, Y = ((X.setCell ⟨T, 0, none⟩ (.int .i64 (b0 + 1))).setCell ⟨T, 1, none⟩ (.int .i64 0)).drew := ⟨_, rfl⟩
            have HBY : Hid (Below W.heap.size W Y) := Lib.hid (by rw [hY]; exact ((HBX2.out.setCell (p := ⟨T, 0, none⟩) (by rw [HTT.out]; exact Nat.le_refl _) _).setCell (p := ⟨T, 1, none⟩) (by rw [HTT.out]; exact Nat.le_refl _) _).drew)
            have HKY : Hid (Blk Y T 91 #[.int .i64 (b0 + 1), .int .i64 0]) := Lib.hid (by rw [hY]; exact ((HKX.out.put 0 _).put 1 _).drew)
            rw [← hY]
            clear hY k0 k1 kf0 kf1
            have hw15 : IntKind.i64.wrap x = x := IntWalk.i64_in _ (by omega)
            refine region_round 8 9 (fun w' => w' = Y.drew) (by kernel_rfl) rfl (by kernel_rfl) ?_
            refine anyC_reads (by kernel_rfl) [0, 1, 2, 3, 4, 5, 6] ?opta ?ohta 2 _ _ _ (by kernel_rfl) ?okta
            case ohta => (simp only [List.filterMap_cons, List.filterMap_nil, List.getElem?_toArray, List.getElem?_cons_zero, List.getElem?_cons_succ]; try rfl)
            repeat (
              refine readC_step (v := ?_) rfl (fun w' hw' => ?_) ?_
              rotate_left
              focus (obtain ⟨p0, p1, p2, p3, p4, p5, p6, p7, p8⟩ := HFW.out _ HBY.out.drew; have k0 := HKY.out.drew.cell 0; have k1 := HKY.out.drew.cell 1; subst hw'; go_simp; try with_reducible rfl)
              go_simp)
            refine readC_nil ?_
            have ky1 := HKY.out.drew.cell 1
            have kf1 := HKY.out.drew.frozen 1
            refine anyC_one (i := 7) (by kernel_rfl) rfl rfl (.inr rfl) ?_
            go_simp
            refine anyC_one (i := 8) (by kernel_rfl) rfl rfl (.inr rfl) ?_
            go_simp
            refine anyC_end (by kernel_rfl) (.inl rfl) ?_
            obtain ⟨Z, hZ⟩ : ∃ Z, Z = (Y.setCell ⟨T, 1, none⟩ (.int .i64 (x))).drew := ⟨_, rfl⟩
            have HBZ : Hid (Below W.heap.size W Z) := Lib.hid (by rw [hZ]; exact (HBY.out.setCell (p := ⟨T, 1, none⟩) (by rw [HTT.out]; exact Nat.le_refl _) _).drew)
            have HKZ : Hid (Blk Z T 91 #[.int .i64 (b0 + 1), .int .i64 (x)]) := Lib.hid (by rw [hZ]; exact (HKY.out.put 1 _).drew)
            rw [← hZ]
            clear hZ ky1 kf1
            have hzZ : W.heap.size ≤ Z.heap.size := HBZ.out.size
            have hTZ : T < Z.heap.size := HKZ.out.lt
            obtain ⟨r0, hr0⟩ : ∃ r0, r0 = b0 + 1 := ⟨_, rfl⟩
            obtain ⟨s1, hs1⟩ : ∃ s1, s1 = x := ⟨_, rfl⟩
            have HSTQ : Hid (fStep room (b0, b1) x = (r0, s1)) := Lib.hid (by rw [HSTP.out, hr0, hs1])
            rw [← hr0, ← hs1] at HKZ
            clear hr0 hs1
            gi_wp2_with fail
            refine region_round 99 19 (fun w' => Below Z.heap.size Z w') (by kernel_rfl) rfl (by kernel_rfl) ?_
            refine anyC_reads (by kernel_rfl) [0, 1, 2, 3, 4, 5, 6, 8, 9, 10, 11, 12, 13, 14] ?optb ?ohtb 5 _ _ _ (by kernel_rfl) ?oktb
            case ohtb => (simp only [List.filterMap_cons, List.filterMap_nil, List.getElem?_toArray, List.getElem?_cons_zero, List.getElem?_cons_succ]; try rfl)
            repeat (
              refine readC_step (v := ?_) rfl (fun w' hw' => ?_) ?_
              rotate_left
              focus (obtain ⟨p0, p1, p2, p3, p4, p5, p6, p7, p8⟩ := HFW.out _ (HBZ.out.trans (hw'.mono hzZ)); have k0 := (HKZ.out.below hw' hTZ).cell 0; have k1 := (HKZ.out.below hw' hTZ).cell 1; go_simp; try with_reducible rfl)
              go_simp)
            refine readC_nil ?_
            refine anyC_one (i := 7) (by kernel_rfl) rfl rfl (.inr (Below.refl _ Z).drew) ?_
            go_simp
            refine (compare_int r0 q0 Z.drew).mono ?_
            rintro e v1 ⟨rfl, rfl⟩
            go_simp
            refine anyC_one (i := 15) (by kernel_rfl) rfl rfl (.inr (Below.refl _ Z).drew) ?_
            go_simp
            refine (compare_i64 s1 q1 Z.drew).mono ?_
            rintro e v2 ⟨rfl, rfl⟩
            go_simp
            refine anyC_one (i := 16) (by kernel_rfl) rfl rfl (.inr (Below.refl _ Z).drew) ?_
            go_simp
            obtain ⟨Z2, hZ2⟩ : ∃ Z2, Z2 = (Z.alloc (.cells #[.int .i64 (cmpI r0 q0), .int .i64 (cmpI s1 q1)] 3)).drew := ⟨_, rfl⟩
            have hbZ2 : Below Z.heap.size Z Z2 := by rw [hZ2]; exact ((Below.refl _ Z).alloc (Nat.le_refl _) _).drew
            have hkZ2 : Blk Z2 Z.heap.size 3 #[.int .i64 (cmpI r0 q0), .int .i64 (cmpI s1 q1)] := by rw [hZ2]; exact (Blk.new Z _ _).drew
            rw [← hZ2]
            clear hZ2
            refine anyC_one (i := 17) (by kernel_rfl) rfl rfl (.inr hbZ2) ?_
            go_simp
            refine (or_two (cmpI r0 q0) (cmpI s1 q1) Z.heap.size Z2 hkZ2).mono ?_
            rintro e v3 ⟨rfl, rfl⟩
            go_simp
            refine anyC_one (i := 18) (by kernel_rfl) rfl rfl (.inr hbZ2) ?_
            go_simp
            refine anyC_end (by kernel_rfl) (.inr hbZ2) ?_
            have hbWZ : Below W.heap.size W v3 := HBZ.out.trans (hbZ2.mono hzZ)
            obtain ⟨p0, p1, p2, p3, p4, p5, p6, p7, p8⟩ := HFW.out _ hbWZ
            have hkGZ := HKGW.out.below hbWZ hGW
            have g0 := hkGZ.frozen (k * 2)
            have g1 := hkGZ.frozen (k * 2 + 1)
            have hkTZ := HKZ.out.below hbZ2 hTZ
            have t0 := hkTZ.cell 0
            have t1 := hkTZ.cell 1
            have HBWZ := Lib.hid hbWZ
            have HKGZ := Lib.hid hkGZ
            have hTG : T ≠ G := by have := HTT.out; omega
            clear hbWZ hkGZ hkTZ hkZ2 hbZ2 p0 p1 p2 p5 p6
            cases hfl : fLt (r0, s1) (q0, q1) with
            | true =>
              have hd : decide (orI (cmpI r0 q0) (cmpI s1 q1) < 0) = true := hfl
              have hlt0 : orI (cmpI r0 q0) (cmpI s1 q1) < 0 := of_decide_eq_true hfl
              have HCN : Hid (curF room (fun i => sz.getD i 0) (bitsL (nw k)) ((n + 1 : Nat), 0) (pre ++ [i]) = (r0, s1)) := Lib.hid (by rw [HCS.out, HSTQ.out, if_pos hfl])
              clear hfl
              gi_wp2_with fail
              have hG0 : Held [G] W ((v3.setCell ⟨G, k * 2, none⟩ (.int .i64 r0)).setCell ⟨G, k * 2 + 1, none⟩ (.int .i64 s1)) := (((Held.refl [G] W).below HBWZ.out (Nat.le_refl _)).setCell (p := ⟨G, k * 2, none⟩) (by simp) _).setCell (p := ⟨G, k * 2 + 1, none⟩) (by simp) _
              refine ⟨KeepsFrom.held hG0 (fun q hq o ho => ?_), ⟨fun v hv => hG0.boxed hv (by simp; omega), fun ht => ht.below (hG0.to (B := G) (by omega) (by simp)) (by omega)⟩, ((HH.out.below HBWZ.out (Nat.le_refl _)).setCell (p := ⟨G, k * 2, none⟩) (by simp) _).setCell (p := ⟨G, k * 2 + 1, none⟩) (by simp) _, (cs.setIfInBounds (k * 2) (.int .i64 r0)).setIfInBounds (k * 2 + 1) (.int .i64 s1), (HKGZ.out.put (k * 2) _).put (k * 2 + 1) _, (HTIW.out.set (Nat.le_refl _)).set (by omega), ?_, ?_⟩
              · rw [List.mem_singleton] at hq
                subst hq
                exact HKGW.out.isCells o ho
              · rw [HCN.out, Array.getElem?_setIfInBounds_ne (by omega), Array.getElem?_setIfInBounds_self_of_lt (by omega)]
              · rw [HCN.out, Array.getElem?_setIfInBounds_self_of_lt (by rw [Array.size_setIfInBounds]; omega)]
            | false =>
              have hd : decide (orI (cmpI r0 q0) (cmpI s1 q1) < 0) = false := hfl
              have hlt0 : ¬ orI (cmpI r0 q0) (cmpI s1 q1) < 0 := of_decide_eq_false hfl
              have HCN : Hid (curF room (fun i => sz.getD i 0) (bitsL (nw k)) ((n + 1 : Nat), 0) (pre ++ [i]) = (q0, q1)) := Lib.hid (by rw [HCS.out, HSTQ.out, if_neg (by rw [hfl]; decide)])
              clear hfl
              gi_wp2_with fail
              have hG0 : Held [G] W v3 := (Held.refl [G] W).below HBWZ.out (Nat.le_refl _)
              refine ⟨KeepsFrom.below HBWZ.out (Nat.le_refl _), ⟨fun v hv => hG0.boxed hv (by simp; omega), fun ht => ht.below (hG0.to (B := G) (by omega) (by simp)) (by omega)⟩, HH.out.below HBWZ.out (Nat.le_refl _), cs, HKGZ.out, HTIW.out, ?_, ?_⟩
              · show cs[k * 2]? = some (.int .i64 (curF room (fun i => sz.getD i 0) (bitsL (nw k)) ((n + 1 : Nat), 0) (pre ++ [i])).1)
                rw [HCN.out]; exact HE0.out
              · show cs[k * 2 + 1]? = some (.int .i64 (curF room (fun i => sz.getD i 0) (bitsL (nw k)) ((n + 1 : Nat), 0) (pre ++ [i])).2)
                rw [HCN.out]; exact HE1.out
          · have hd := decide_eq_false hgt
            have HSTP : Hid (fStep room (b0, b1) x = (b0, b1 + x)) := Lib.hid (by unfold fStep; rw [if_neg hgt])
            gi_wp2_with fail
            obtain ⟨Y, hY⟩ : ∃ Y, Y = X.drew := ⟨_, rfl⟩
            have HBY : Hid (Below W.heap.size W Y) := Lib.hid (by rw [hY]; exact HBX2.out.drew)
            have HKY : Hid (Blk Y T 91 #[.int .i64 b0, .int .i64 b1]) := Lib.hid (by rw [hY]; exact HKX.out.drew)
            rw [← hY]
            clear hY
            have hw15 : IntKind.i64.wrap (b1 + x) = b1 + x := IntWalk.i64_in _ (by omega)
            refine region_round 8 9 (fun w' => w' = Y.drew) (by kernel_rfl) rfl (by kernel_rfl) ?_
            refine anyC_reads (by kernel_rfl) [0, 1, 2, 3, 4, 5, 6] ?opfa ?ohfa 2 _ _ _ (by kernel_rfl) ?okfa
            case ohfa => (simp only [List.filterMap_cons, List.filterMap_nil, List.getElem?_toArray, List.getElem?_cons_zero, List.getElem?_cons_succ]; try rfl)
            repeat (
              refine readC_step (v := ?_) rfl (fun w' hw' => ?_) ?_
              rotate_left
              focus (obtain ⟨p0, p1, p2, p3, p4, p5, p6, p7, p8⟩ := HFW.out _ HBY.out.drew; have k0 := HKY.out.drew.cell 0; have k1 := HKY.out.drew.cell 1; subst hw'; go_simp; try with_reducible rfl)
              go_simp)
            refine readC_nil ?_
            have ky1 := HKY.out.drew.cell 1
            have kf1 := HKY.out.drew.frozen 1
            refine anyC_one (i := 7) (by kernel_rfl) rfl rfl (.inr rfl) ?_
            go_simp
            refine anyC_one (i := 8) (by kernel_rfl) rfl rfl (.inr rfl) ?_
            go_simp
            refine anyC_end (by kernel_rfl) (.inl rfl) ?_
            obtain ⟨Z, hZ⟩ : ∃ Z, Z = (Y.setCell ⟨T, 1, none⟩ (.int .i64 (b1 + x))).drew := ⟨_, rfl⟩
            have HBZ : Hid (Below W.heap.size W Z) := Lib.hid (by rw [hZ]; exact (HBY.out.setCell (p := ⟨T, 1, none⟩) (by rw [HTT.out]; exact Nat.le_refl _) _).drew)
            have HKZ : Hid (Blk Z T 91 #[.int .i64 (b0), .int .i64 (b1 + x)]) := Lib.hid (by rw [hZ]; exact (HKY.out.put 1 _).drew)
            rw [← hZ]
            clear hZ ky1 kf1
            have hzZ : W.heap.size ≤ Z.heap.size := HBZ.out.size
            have hTZ : T < Z.heap.size := HKZ.out.lt
            obtain ⟨r0, hr0⟩ : ∃ r0, r0 = b0 := ⟨_, rfl⟩
            obtain ⟨s1, hs1⟩ : ∃ s1, s1 = b1 + x := ⟨_, rfl⟩
            have HSTQ : Hid (fStep room (b0, b1) x = (r0, s1)) := Lib.hid (by rw [HSTP.out, hr0, hs1])
            rw [← hr0, ← hs1] at HKZ
            clear hr0 hs1
            gi_wp2_with fail
            refine region_round 99 19 (fun w' => Below Z.heap.size Z w') (by kernel_rfl) rfl (by kernel_rfl) ?_
            refine anyC_reads (by kernel_rfl) [0, 1, 2, 3, 4, 5, 6, 8, 9, 10, 11, 12, 13, 14] ?opfb ?ohfb 5 _ _ _ (by kernel_rfl) ?okfb
            case ohfb => (simp only [List.filterMap_cons, List.filterMap_nil, List.getElem?_toArray, List.getElem?_cons_zero, List.getElem?_cons_succ]; try rfl)
            repeat (
              refine readC_step (v := ?_) rfl (fun w' hw' => ?_) ?_
              rotate_left
              focus (obtain ⟨p0, p1, p2, p3, p4, p5, p6, p7, p8⟩ := HFW.out _ (HBZ.out.trans (hw'.mono hzZ)); have k0 := (HKZ.out.below hw' hTZ).cell 0; have k1 := (HKZ.out.below hw' hTZ).cell 1; go_simp; try with_reducible rfl)
              go_simp)
            refine readC_nil ?_
            refine anyC_one (i := 7) (by kernel_rfl) rfl rfl (.inr (Below.refl _ Z).drew) ?_
            go_simp
            refine (compare_int r0 q0 Z.drew).mono ?_
            rintro e v1 ⟨rfl, rfl⟩
            go_simp
            refine anyC_one (i := 15) (by kernel_rfl) rfl rfl (.inr (Below.refl _ Z).drew) ?_
            go_simp
            refine (compare_i64 s1 q1 Z.drew).mono ?_
            rintro e v2 ⟨rfl, rfl⟩
            go_simp
            refine anyC_one (i := 16) (by kernel_rfl) rfl rfl (.inr (Below.refl _ Z).drew) ?_
            go_simp
            obtain ⟨Z2, hZ2⟩ : ∃ Z2, Z2 = (Z.alloc (.cells #[.int .i64 (cmpI r0 q0), .int .i64 (cmpI s1 q1)] 3)).drew := ⟨_, rfl⟩
            have hbZ2 : Below Z.heap.size Z Z2 := by rw [hZ2]; exact ((Below.refl _ Z).alloc (Nat.le_refl _) _).drew
            have hkZ2 : Blk Z2 Z.heap.size 3 #[.int .i64 (cmpI r0 q0), .int .i64 (cmpI s1 q1)] := by rw [hZ2]; exact (Blk.new Z _ _).drew
            rw [← hZ2]
            clear hZ2
            refine anyC_one (i := 17) (by kernel_rfl) rfl rfl (.inr hbZ2) ?_
            go_simp
            refine (or_two (cmpI r0 q0) (cmpI s1 q1) Z.heap.size Z2 hkZ2).mono ?_
            rintro e v3 ⟨rfl, rfl⟩
            go_simp
            refine anyC_one (i := 18) (by kernel_rfl) rfl rfl (.inr hbZ2) ?_
            go_simp
            refine anyC_end (by kernel_rfl) (.inr hbZ2) ?_
            have hbWZ : Below W.heap.size W v3 := HBZ.out.trans (hbZ2.mono hzZ)
            obtain ⟨p0, p1, p2, p3, p4, p5, p6, p7, p8⟩ := HFW.out _ hbWZ
            have hkGZ := HKGW.out.below hbWZ hGW
            have g0 := hkGZ.frozen (k * 2)
            have g1 := hkGZ.frozen (k * 2 + 1)
            have hkTZ := HKZ.out.below hbZ2 hTZ
            have t0 := hkTZ.cell 0
            have t1 := hkTZ.cell 1
            have HBWZ := Lib.hid hbWZ
            have HKGZ := Lib.hid hkGZ
            have hTG : T ≠ G := by have := HTT.out; omega
            clear hbWZ hkGZ hkTZ hkZ2 hbZ2 p0 p1 p2 p5 p6
            cases hfl : fLt (r0, s1) (q0, q1) with
            | true =>
              have hd : decide (orI (cmpI r0 q0) (cmpI s1 q1) < 0) = true := hfl
              have hlt0 : orI (cmpI r0 q0) (cmpI s1 q1) < 0 := of_decide_eq_true hfl
              have HCN : Hid (curF room (fun i => sz.getD i 0) (bitsL (nw k)) ((n + 1 : Nat), 0) (pre ++ [i]) = (r0, s1)) := Lib.hid (by rw [HCS.out, HSTQ.out, if_pos hfl])
              clear hfl
              gi_wp2_with fail
              have hG0 : Held [G] W ((v3.setCell ⟨G, k * 2, none⟩ (.int .i64 r0)).setCell ⟨G, k * 2 + 1, none⟩ (.int .i64 s1)) := (((Held.refl [G] W).below HBWZ.out (Nat.le_refl _)).setCell (p := ⟨G, k * 2, none⟩) (by simp) _).setCell (p := ⟨G, k * 2 + 1, none⟩) (by simp) _
              refine ⟨KeepsFrom.held hG0 (fun q hq o ho => ?_), ⟨fun v hv => hG0.boxed hv (by simp; omega), fun ht => ht.below (hG0.to (B := G) (by omega) (by simp)) (by omega)⟩, ((HH.out.below HBWZ.out (Nat.le_refl _)).setCell (p := ⟨G, k * 2, none⟩) (by simp) _).setCell (p := ⟨G, k * 2 + 1, none⟩) (by simp) _, (cs.setIfInBounds (k * 2) (.int .i64 r0)).setIfInBounds (k * 2 + 1) (.int .i64 s1), (HKGZ.out.put (k * 2) _).put (k * 2 + 1) _, (HTIW.out.set (Nat.le_refl _)).set (by omega), ?_, ?_⟩
              · rw [List.mem_singleton] at hq
                subst hq
                exact HKGW.out.isCells o ho
              · rw [HCN.out, Array.getElem?_setIfInBounds_ne (by omega), Array.getElem?_setIfInBounds_self_of_lt (by omega)]
              · rw [HCN.out, Array.getElem?_setIfInBounds_self_of_lt (by rw [Array.size_setIfInBounds]; omega)]
            | false =>
              have hd : decide (orI (cmpI r0 q0) (cmpI s1 q1) < 0) = false := hfl
              have hlt0 : ¬ orI (cmpI r0 q0) (cmpI s1 q1) < 0 := of_decide_eq_false hfl
              have HCN : Hid (curF room (fun i => sz.getD i 0) (bitsL (nw k)) ((n + 1 : Nat), 0) (pre ++ [i]) = (q0, q1)) := Lib.hid (by rw [HCS.out, HSTQ.out, if_neg (by rw [hfl]; decide)])
              clear hfl
              gi_wp2_with fail
              have hG0 : Held [G] W v3 := (Held.refl [G] W).below HBWZ.out (Nat.le_refl _)
              refine ⟨KeepsFrom.below HBWZ.out (Nat.le_refl _), ⟨fun v hv => hG0.boxed hv (by simp; omega), fun ht => ht.below (hG0.to (B := G) (by omega) (by simp)) (by omega)⟩, HH.out.below HBWZ.out (Nat.le_refl _), cs, HKGZ.out, HTIW.out, ?_, ?_⟩
              · show cs[k * 2]? = some (.int .i64 (curF room (fun i => sz.getD i 0) (bitsL (nw k)) ((n + 1 : Nat), 0) (pre ++ [i])).1)
                rw [HCN.out]; exact HE0.out
              · show cs[k * 2 + 1]? = some (.int .i64 (curF room (fun i => sz.getD i 0) (bitsL (nw k)) ((n + 1 : Nat), 0) (pre ++ [i])).2)
                rw [HCN.out]; exact HE1.out
        case done =>
          intro D W hD hh hi hdef
          obtain ⟨cs, hkG, htI, e0, e1⟩ := hi
          have htN := TabIs.next (by omega) HSZ.out h8 HN.out hk1 hlt htI e0 e1
          have hmkW : Marks S ({ target := .collected D, args := #[] } :: ds) W := Marks.cons HMK2.out hzW2 (by omega) (by omega) (fun q hq hdq => by
            rw [hh.block q (by omega) (fun hm => ?_)]
            · exact hdq
            · simp only [List.mem_cons, List.not_mem_nil, or_false] at hm
              rcases hm with rfl | rfl
              · have := HBX.out
                unfold Boxed at this
                rw [this] at hdq
                cases hdq
              · have := HKG2.out.isCells _ hdq
                cases this) hdef
          have hk8 := Blk.held hh HK82.out (by simp; omega)
          have hk7 := Blk.held hh HK72.out (by simp; omega)
          have hbW : Below G v1 W := HBW.out.trans (hh.to (by omega) (by simp; omega))
          have htW : TabOk W := HTV.out.below hbW (by omega)
          have c8 := hk8.cell 0
          have hw3 : IntKind.i64.wrap ((k : Int) + 1) = (k : Int) + 1 := IntWalk.i64_in _ (by omega)
          obtain ⟨W4, hW4⟩ : ∃ W4, W4 = W.alloc (.cells #[.int .i64 ((k : Int) + 1)] 3) := ⟨_, rfl⟩
          have hk84 : Blk W4 W.heap.size 3 #[.int .i64 ((k + 1 : Nat) : Int)] := by rw [hW4]; exact Blk.new W _ _
          have hG4 : G + 1 < W.heap.size := hk7.lt
          have HW4 : Hid (Below G v1 W4 ∧ Blk W4 G 91 cs ∧ Blk W4 (G + 1) 89 #[.slice (some ⟨G, 0, none⟩) N N] ∧ TabOk W4 ∧ Marks S ({ target := .collected D, args := #[] } :: ds) W4) := Lib.hid (by
            rw [hW4]
            refine ⟨hbW.alloc (by omega) _, hkG.alloc _, hk7.alloc _, ?_, hmkW.alloc _⟩
            exact htW.below ((Below.refl W.heap.size W).alloc (Nat.le_refl _) _) (by omega))
          have HK84 := Lib.hid hk84
          have HTN := Lib.hid htN
          have HWW := Lib.hid hW4
          clear hk84 htN hW4 hmkW hk7 hk8 hbW htW hkG htI e0 e1 hh hdef
          go_wp2_with fail
          rw [← HWW.out]
          refine HK.out _ _ _ ?_ ⟨k + 1, W.heap.size, cs, by omega, by omega, ?_, ?_, HW4.out.1, HW4.out.2.1, HTN.out, HW4.out.2.2.1, HK84.out, hG4, HW4.out.2.2.2.1, HW4.out.2.2.2.2⟩ ?_
          · simp only [patch, slot, List.foldl_cons, List.foldl_nil, List.set_cons_succ, List.set_cons_zero, List.getD_cons_succ, List.getD_cons_zero]
          · simp only [slot, List.getD_cons_succ, List.getD_cons_zero]
          · simp only [slot, List.getD_cons_succ, List.getD_cons_zero]
            first | (simp [intOf]; done) | (simp [intOf]; omega)
          · simp only [slot, List.getD_cons_succ, List.getD_cons_zero]
            have := HG31.out
            simp [intOf] at this ⊢
            omega
      · obtain rfl : k = N := by omega
        have hkk : k - 1 < k := Nat.sub_lt hk1 Nat.zero_lt_one
        obtain ⟨b, hbm, e0, e1⟩ := HTI.out.2 (k - 1) hkk
        have y0 := HKG.out.cell ((k - 1) * 2)
        rw [e0] at y0
        have hkj : ((k : Int) - 1) = ((k - 1 : Nat) : Int) := by omega
        have hw2 : IntKind.i64.wrap (((k - 1 : Nat) : Int)) = ((k - 1 : Nat) : Int) := IntWalk.i64_in _ (by omega)
        rw [← hkj] at hw2
        rw [hkj] at hw2
        have hbp : (bitsL (nw (k - 1))).Perm (List.range n) := by
          refine (List.perm_ext_iff_of_nodup (bits_nodup _) List.nodup_range).2 fun x => ?_
          have hkn : k = 2 ^ n := HN.out
          have hk1' : k - 1 < 2 ^ n := by rw [← hkn]; omega
          rw [few_bit h8 hk1', List.mem_range, hkn, Nat.testBit_two_pow_sub_one, decide_eq_true_eq]
        have HBM := Lib.hid (hbm.perm hbp)
        clear hbm hbp e0 e1 hw2 hkj
        go_wp2_with fail
        refine bodyPostM_ret HMK.out fun w' hw' => ⟨.tuple #[.int .i64 b.1, .int .i64 0], by simp [results, Tryd.results26, go_sem], ?_⟩
        refine ⟨b.1, by rw [HZ.out], ?_, fun h => absurd HZ.out h, fun _ => ⟨b, HBM.out, rfl⟩⟩
        rw [← HS.out]
        exact (HBV.out.trans (HB.out.mono (by omega))).trans hw'.1
  · have h1 : (packCheck sz room != 0) = true := by simpa using h0
    obtain ⟨pc, hpc⟩ : ∃ pc, pc = packCheck sz room := ⟨_, rfl⟩
    rw [← hpc] at h0 h1 ⊢
    have H0 := Lib.hid h0
    have HPC := Lib.hid hpc
    clear hpc h0
    go_wp2_with fail
    refine bodyPostM_ret (Marks.nil S v1) fun w' hw' => ⟨.tuple #[.int .i64 0, .int .i64 pc], by simp [results, Tryd.results26, go_sem], ?_⟩
    exact ⟨0, by rw [HPC.out], by rw [← HS.out]; exact HBV.out.trans hw'.1, fun _ => rfl, fun h => absurd (HPC.out.trans h) H0.out⟩
end Go.Proofs.YtfaifadfilndmaaDoor
