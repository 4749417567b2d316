/- Whom each takes: the program's walk. Conditions: the words read as a list; the table. -/
import Derived.Test.YtokmialpclcodaaDoorMostB
import Derived.Test.YtokmialpclcodaaDoorMostQ
import Derived.Test.YtokmialpclcodaaDoorPairsK
import Derived.IntWalk
namespace Go.Proofs.YtokmialpclcodaaDoor
open Go.RowKit Go.Shelf
attribute [local go_sem] Oper.semAt_some
attribute [local go_sem ↓] w_and w_or w_xor w_andNot w_and1 w_and255 w_xor1 w_or0 w_shl w_shl1 w_shr w_sub w_add w_sub1 w_add1
attribute [local go_sem] w_eq0 w_ne0 w_eq1 w_eq w_ne

theorem pairs_in {l : List (BitVec 32)} (h : pairsCheck l = 0) : l.length ≤ 8 ∧ ∀ k q, Nr l k q → q < 8 := by
  unfold pairsCheck at h
  split at h
  · cases h
  · rename_i h8
    split at h
    · cases h
    · rename_i hany
      refine ⟨by omega, fun k q hq => ?_⟩
      unfold Nr at hq
      by_cases hk : k < l.length
      · have hm := List.any_eq_false.1 (by simpa using hany) _ (List.getElem_mem hk)
        rw [lw_at l k hk] at hq
        unfold wide8 at hm
        have hm' : wShr l[k] 8 = w0 := by simpa using hm
        rcases Nat.lt_or_ge q 8 with h1 | h1
        · exact h1
        · have := congrArg (fun y : BitVec 32 => y.getLsbD (q - 8)) hm'
          simp only [b_shr, b_0] at this
          rw [show 8 + (q - 8) = q by omega, hq] at this
          cases this
      · unfold lw at hq
        rw [List.getD_eq_getElem?_getD, List.getElem?_eq_none (by omega)] at hq
        have : w0.getLsbD q = true := hq
        rw [b_0] at this
        cases this
theorem blkOf_ne {g h : Nat} (hn : g ≠ h) : blkOf (some ⟨g, 0, none⟩) ≠ some h := fun e => hn (by simpa [blkOf] using e)
def MostI (near : List (BitVec 32)) (i B5 gl c6 T6 T7 : Nat) (l : List Int) (u : BitVec 32) (left : Nat) (pre : List Nat) (W : World) : Prop :=
  (∀ j ∈ pre, okT (mF (near.drop (i + 1))) (lw near i) u left j = false) ∧ Own W B5 3 1 icell (some ⟨gl, 0, none⟩) c6 (l ++ [-1]) ∧ Blk W T6 51 #[.int .u32 (wN u)] ∧ Blk W T7 3 #[.int .i64 (left : Int)]
def MostX (near : List (BitVec 32)) (i B5 gl c6 T6 T7 : Nat) (l : List Int) (u : BitVec 32) (left : Nat) (cd : Code) (_pre : List Nat) (W : World) : Prop :=
  cd = .exit 2 ∧ ∃ j : Nat, j < 8 ∧ okT (mF (near.drop (i + 1))) (lw near i) u left j = true ∧ tkD (mF (near.drop (i + 1))) (lw near i) u left 8 = j ∧ Own W B5 3 1 icell (some ⟨gl, 0, none⟩) c6 (l ++ [(j : Int)]) ∧ Blk W T6 51 #[.int .u32 (wN (wAdd u (wShl w1 j)))] ∧ Blk W T7 3 #[.int .i64 ((left : Int) - 1)]
def MostR (near : List (BitVec 32)) (n : Nat) (e : Ending) (w w' : World) : Prop :=
  ∃ A' k cap, e = .returned (.tuple #[.slice A' k cap, .int .i64 (pairsCheck near)]) ∧ Below w.heap.size w w' ∧ (pairsCheck near ≠ 0 → k = 0) ∧ (pairsCheck near = 0 → k = n ∧ Els w' w'.heap.size 1 icell A' (pairsTo near n).1)

set_option maxRecDepth 100000 in
set_option maxHeartbeats 8000000 in
theorem pairs_Most (near : List (BitVec 32)) (n : Nat) (hn : near.length = n) (hm : n ≤ maxLen) (A : Option Addr) (c : Nat) (hc : n ≤ c) (w : World) (hr : Els w w.heap.size 1 wcell A near) (htab : TabOk w) :
    Calls Tryd.prog 11 #[.slice A n c] w fun e w' => MostR near n e w w' := by
  obtain ⟨S, hS⟩ : ∃ S, S = w.heap.size := ⟨_, rfl⟩
  obtain ⟨W1, hW1⟩ : ∃ W1, W1 = w.alloc (.cells #[.slice A n c] 22) := ⟨_, rfl⟩
  have hb1 : Below S w W1 := by rw [hW1, hS]; exact (Below.refl _ w).alloc (Nat.le_refl _) _
  have hk1 : Blk W1 S 22 #[.slice A n c] := by rw [hW1, hS]; exact Blk.new w _ _
  have hz1 : W1.heap.size = S + 1 := by rw [hW1, size_alloc', hS]
  have hr1 : Els W1 S 1 wcell A near := by rw [hS] at hb1 ⊢; exact hr.below hb1
  have htab0 : Hid (TabOk w) := Lib.hid htab
  have HR0 : Hid (Els w S 1 wcell A near) := Lib.hid (by rw [hS]; exact hr)
  have h0w : 0 < S := by rw [hS]; exact Nat.lt_of_le_of_lt (Nat.zero_le _) htab.1
  have ht1 : TabOk W1 := htab.below hb1 h0w
  have c0 := hk1.cell 0
  have HCK := Lib.hid (pairs_check A n c near W1 hn hm (hr1.more (by omega)))
  have HN := Lib.hid hn
  have HR1 := Lib.hid hr1
  have HB1 := Lib.hid hb1
  have HK1 := Lib.hid hk1
  have HT1 := Lib.hid ht1
  have HS := Lib.hid hS
  have HW1 := Lib.hid hW1
  clear hr hb1 hk1 hr1 ht1 htab hn hS hW1
  refine (callsIn_wide (n := 9)).1 ?_
  refine callsIn_of_wp_marks Tryd.func11 rfl trivial ?_ rfl
  simp only [Tryd.ntmps11, List.size_toArray, List.length_cons, List.length_nil, Nat.reduceAdd, Nat.reduceSub, Array.replicate_succ, Array.replicate_zero, List.push_toArray, List.append_toArray, List.nil_append, List.cons_append]
  refine wpIn_wide.2 ?_
  go_wp2_with fail
  rw [← HS.out, ← HW1.out]
  clear HW1
  refine HCK.out.mono ?_
  clear HCK
  rintro e v1 ⟨rfl, hb2⟩
  have hbv := HB1.out.trans (hb2.mono (by omega))
  have hkv := HK1.out.below hb2 (by omega)
  have htv := HT1.out.below hb2 (by omega)
  have hrv := HR1.out.below (hb2.mono (by omega))
  have hzv := hb2.size
  have HBV := Lib.hid hbv
  have HKV := Lib.hid hkv
  have HTV := Lib.hid htv
  have HRV := Lib.hid hrv
  clear hbv hkv htv hrv hb2 c0
  by_cases h0 : pairsCheck near = 0
  · obtain ⟨h8, hw⟩ := pairs_in h0
    rw [HN.out] at h8
    rw [h0]
    have HZ := Lib.hid h0
    have HW := Lib.hid hw
    obtain ⟨G, hG⟩ : ∃ G, G = v1.heap.size := ⟨_, rfl⟩
    obtain ⟨V, hV⟩ : ∃ V, V = v1.alloc (.cells #[.slice none 0 0] 23) := ⟨_, rfl⟩
    have hbV : Below G v1 V := by rw [hV, hG]; exact (Below.refl _ v1).alloc (Nat.le_refl _) _
    have hkG : Blk V G 23 #[.slice none 0 0] := by rw [hV, hG]; exact Blk.new v1 _ _
    have hSG : S < G := by rw [hG]; exact HKV.out.lt
    have hkS : Blk V S 22 #[.slice A n c] := HKV.out.below hbV hSG
    have hrV : Els V S 1 wcell A near := HRV.out.below (hbV.mono (by omega))
    have htV : TabOk V := HTV.out.below hbV (by omega)
    have hzV : V.heap.size = G + 1 := by rw [hV, size_alloc', hG]
    have HMANY := Lib.hid (pairs_many near n HN.out h8 HW.out A c V (hrV.more (by omega)) htV)
    have HBV2 := Lib.hid (HBV.out.trans (hbV.mono (by omega)))
    have HKG := Lib.hid hkG
    have HKS := Lib.hid hkS
    have HRV2 := Lib.hid hrV
    have HTV2 := Lib.hid htV
    have c0 := hkS.cell 0
    rw [hV] at c0
    have HVV := Lib.hid hV
    have HGG := Lib.hid hG
    clear h0 hw hG hV hbV hkG hkS hrV htV HBV HKV HRV HTV
    go_wp2_with fail
    rw [← HVV.out, ← HGG.out]
    refine HMANY.out.mono ?_
    clear HMANY
    rintro e v2 ⟨rfl, hb3⟩
    obtain ⟨T, hT⟩ : ∃ T, T = v2.heap.size := ⟨_, rfl⟩
    have hzT := hb3.size
    obtain ⟨X2, hX2⟩ : ∃ X2, X2 = (v2.alloc (.cells #[.int .u32 0] 51)).alloc (.cells #[.int .i64 (mF near w0 : Nat)] 3) := ⟨_, rfl⟩
    have hbX : Below T v2 X2 := by rw [hX2, hT]; exact ((Below.refl _ v2).alloc (Nat.le_refl _) _).alloc (by rw [size_alloc']; omega) _
    have hk6 : Blk X2 T 51 #[.int .u32 (wN w0)] := by rw [hX2, hT]; exact (Blk.new v2 51 #[.int .u32 0]).alloc _
    have hk7 : Blk X2 (T + 1) 3 #[.int .i64 (mF near w0 : Nat)] := by rw [hX2, hT]; exact Blk.new_at (by rw [size_alloc'])
    have hkG2 : Blk X2 G 23 #[.slice none 0 0] := (HKG.out.below hb3 (by omega)).below hbX (by omega)
    have hkS2 : Blk X2 S 22 #[.slice A n c] := (HKS.out.below hb3 (by omega)).below hbX (by omega)
    have hbX2 : Below S w X2 := HBV2.out.trans ((hb3.mono (by omega)).trans (hbX.mono (by omega)))
    have hzX : X2.heap.size = T + 2 := by rw [hX2, size_alloc', size_alloc', hT]
    have htX : TabOk X2 := (HTV2.out.below hb3 (by omega)).below hbX (by omega)
    have hGT : G < T := by omega
    have c1 := hkS2.cell 0
    rw [hX2] at c1
    have HK6 := Lib.hid hk6
    have HK7 := Lib.hid hk7
    have HKG2 := Lib.hid hkG2
    have HKS2 := Lib.hid hkS2
    have HBX2 := Lib.hid hbX2
    have HTX := Lib.hid htX
    have HX2 := Lib.hid hX2
    have HTT := Lib.hid hT
    obtain ⟨mm, hmm⟩ : ∃ mm, mm = mF near w0 := ⟨_, rfl⟩
    rw [← hmm] at HX2 c1
    rw [← hmm]
    have HMM := Lib.hid hmm
    clear hX2 hbX hk6 hk7 hkG2 hkS2 hbX2 htX hb3 hT HBV2 HKG HKS hmm
    go_wp2_with fail
    rw [← HTT.out, ← HX2.out]
    clear c1
    refine wpIn_wide.1 (wpIn_loop_marks (F := Fence.wide) (n := 9) [8, 9, 20, 21, 22, 23, 24, 25, 26, 27, 28, 29, 30, 31, 55]
      (fun g ds wr => ∃ (i : Nat) (A5 : Option Addr) (c5 : Nat), i ≤ n ∧ g 20 = .int .i64 i ∧ Below S w wr ∧ Blk wr S 22 #[.slice A n c] ∧ Blk wr G 23 #[.slice A5 i c5] ∧ Blk wr T 51 #[.int .u32 (wN (pairsTo near i).2)] ∧ Blk wr (T + 1) 3 #[.int .i64 (mF (near.drop i) (pairsTo near i).2 : Nat)] ∧ Own wr (T + 2) 3 1 icell A5 c5 (pairsTo near i).1 ∧ TabOk wr ∧ Marks S ds wr)
      (fun g _ => n - (intOf (g 20)).toNat) ?same ⟨0, none, 0, Nat.zero_le _, ?s20, HBX2.out, HKS2.out, HKG2.out, HK6.out, HK7.out, Own.nil _ _ _ (fun _ => rfl), HTX.out, Marks.nil _ _⟩ ?round (fun g g' w h => by simp only [h 20 (by simp)]) (by decide) 57 rfl (by decide))
    case same => simp only [patch, slot, List.foldl_cons, List.foldl_nil, List.set_cons_succ, List.set_cons_zero, List.getD_cons_succ, List.getD_cons_zero]
    case s20 => (simp only [slot, List.getD_cons_succ, List.getD_cons_zero]; try rfl)
    case round =>
      rintro g ds wr K ⟨i, A5, c5, hi, hg20, hb, hkS, hkG, hk6, hk7, hown, ht, hmk⟩ hK
      refine wpIn_wide.2 ?_
      simp only [patch, List.foldl_cons, List.foldl_nil, List.set_cons_succ, List.set_cons_zero, hg20]
      have hub := pairsTo_bits near i
      have hpl := pairsTo_length near i
      obtain ⟨l, hll⟩ : ∃ l, l = (pairsTo near i).1 := ⟨_, rfl⟩
      obtain ⟨u, hu⟩ : ∃ u, u = (pairsTo near i).2 := ⟨_, rfl⟩
      have hst : pairsTo near (i + 1) = (l ++ [tkD (mF (near.drop (i + 1))) (lw near i) u (mF (near.drop i) u) 8], if 0 ≤ tkD (mF (near.drop (i + 1))) (lw near i) u (mF (near.drop i) u) 8 then wAdd u (wShl w1 (tkD (mF (near.drop (i + 1))) (lw near i) u (mF (near.drop i) u) 8).toNat) else u) := by rw [hll, hu, pairsTo]
      rw [← hu] at hub hk6 hk7
      rw [← hll] at hpl hown
      obtain ⟨left, hleft⟩ : ∃ left, left = mF (near.drop i) u := ⟨_, rfl⟩
      rw [← hleft] at hk7 hst
      have hl8 : left ≤ 8 := by rw [hleft]; exact Nat.le_trans (mF_le _ _) (by rw [List.length_drop, HN.out]; omega)
      have HLEFT := Lib.hid hleft
      have HG20 := Lib.hid hg20
      have HK := Lib.hid hK
      have HB := Lib.hid hb
      have HKS := Lib.hid hkS
      have HKG := Lib.hid hkG
      have HK6 := Lib.hid hk6
      have HK7 := Lib.hid hk7
      have HO := Lib.hid hown
      have HT := Lib.hid ht
      have HMK := Lib.hid hmk
      have HST := Lib.hid hst
      have HUB := Lib.hid hub
      have HPL := Lib.hid hpl
      have HLL := Lib.hid hll
      have hz := hb.size
      have hT1z := hk7.lt
      clear hK hb hkS hkG hk6 hk7 hown ht hmk hg20 hst hub hpl hll hu hleft HBX2 HTX
      by_cases hin : i < n
      · have hil : i < near.length := by rw [HN.out]; exact hin
        obtain ⟨nb, no, hA, hnb, g0⟩ := (HR0.out.below HB.out).at1 (f := fun x : BitVec 32 => .int .u32 (wN x)) hil
        subst hA
        obtain ⟨X, hX⟩ : ∃ X, X = lw near i := ⟨_, rfl⟩
        rw [← lw_at near i hil, ← hX] at g0
        have HXX := Lib.hid hX
        obtain ⟨Y, hY⟩ : ∃ Y, Y = wBut X u := ⟨_, rfl⟩
        have HY : Hid (∀ j, j ∈ bitsL Y ↔ X.getLsbD j = true ∧ u.getLsbD j = false) := Lib.hid (fun j => by rw [mem_bitsL, hY, b_but]; simp)
        have HYY := Lib.hid hY
        have x0 := (HKG.out.alloc (.cells #[.int .i64 i] 3)).cell 0
        have HO1 := Lib.hid (HO.out.alloc (.cells #[.int .i64 i] 3))
        have hne : blkOf A5 ≠ some G := fun h => by have := (HO.out.lt _ h).1; omega
        have hne6 : blkOf A5 ≠ some T := fun h => by have := (HO.out.lt _ h).1; omega
        have hne7 : blkOf A5 ≠ some (T + 1) := fun h => by have := (HO.out.lt _ h).1; omega
        have hneS : blkOf A5 ≠ some S := fun h => by have := (HO.out.lt _ h).1; omega
        have hne8 : blkOf A5 ≠ some wr.heap.size := fun h => by have := (HO.out.lt _ h).2; omega
        have hlow : ∀ g, blkOf A5 = some g → S ≤ g := fun g hg => by have := (HO.out.lt g hg).1; omega
        have HNE := Lib.hid hne
        have HNE6 := Lib.hid hne6
        have HNE7 := Lib.hid hne7
        have HNES := Lib.hid hneS
        have HNE8 := Lib.hid hne8
        have HLOW := Lib.hid hlow
        clear hX hY hne hne6 hne7 hneS hne8 hlow HRV2
        go_wp2_with (at_builtin; go_loud (refine wpList_push rfl _ _ _ rfl (T + 2) 1 3 (.int .i64 0) 8 Tryd.underlying23 (by kernel_rfl) rfl (by omega) icell (wr.alloc (.cells #[.int .i64 i] 3)) #[.int .i64 (-1)] A5 i c5 l HPL.out rfl HO1.out 1 [-1] rfl rfl (wr.heap.size + 1) rfl (by rw [size_alloc']) (by simp [Value.oneCell']) (by unfold maxLen; omega) (by omega) (by omega) ?_; intro A6 c6 w4 hown4 hgrow hloc; have hG4 := ((HKG.out.alloc (.cells #[.int .i64 i] 3)).alloc (.cells #[.int .i64 (-1)] 3)).grown hgrow (fun h => HNE.out h.symm); have k2 := hG4.cell 0; have k3 := hG4.frozen 0; have h64 := ((HK6.out.alloc (.cells #[.int .i64 i] 3)).alloc (.cells #[.int .i64 (-1)] 3)).grown hgrow (fun h => HNE6.out h.symm); have k4 := h64.cell 0))
        rw [← HYY.out]
        refine (graph_Each Y _).mono ?_
        rintro e W3 ⟨rfl, rfl⟩
        go_wp2_with fail
        clear x0 g0 k2 k3 k4
        obtain ⟨gl, rfl, hgl, hgl2⟩ := hown4.form_ (by simp)
        obtain ⟨T8, hT8⟩ : ∃ T8, T8 = wr.heap.size := ⟨_, rfl⟩
        have hgl8 : gl ≠ T8 := fun e => by
          rcases hloc with h | h
          · refine HNE8.out ?_
            rw [← h, ← hT8, ← e]; rfl
          · have : gl = wr.heap.size + 1 + 1 := by simpa [blkOf] using h
            omega
        have hb4 : Below S w w4 := ((HB.out.alloc (by have := HS.out; omega) (.cells #[.int .i64 i] 3)).alloc (by rw [size_alloc']; have := HS.out; omega) (.cells #[.int .i64 (-1)] 3)).grown hgrow (by rw [size_alloc', size_alloc']; have := HS.out; omega) (fun g hg => HLOW.out g hg)
        have hS4 := ((HKS.out.alloc (.cells #[.int .i64 i] 3)).alloc (.cells #[.int .i64 (-1)] 3)).grown hgrow (fun h => HNES.out h.symm)
        have h74 := ((HK7.out.alloc (.cells #[.int .i64 i] 3)).alloc (.cells #[.int .i64 (-1)] 3)).grown hgrow (fun h => HNE7.out h.symm)
        have h84 := ((Blk.new wr 3 #[.int .i64 i]).alloc (.cells #[.int .i64 (-1)] 3)).grown hgrow (fun h => HNE8.out h.symm)
        rw [← hT8] at h84
        have ht4 : TabOk w4 := htab0.out.below hb4 h0w
        have hm4 : Marks S ds w4 := ((HMK.out.alloc _).alloc _).imp fun D hD => by
          have hlt := lt_of_block hD
          refine (hgrow.block D hlt (fun e => ?_)).trans hD
          cases hA5 : A5 with
          | none => rw [hA5] at e; cases e
          | some a5 =>
            rw [hA5] at e
            have he : D = a5.block := by simpa [blkOf] using e
            have hO1' := HO1.out.alloc (.cells #[.int .i64 (-1)] 3)
            rw [hA5] at hO1'
            obtain ⟨hf, hlen, hor⟩ := hO1'
            rcases hor with ⟨hv, _⟩ | ⟨g', cp, cur, hv, _, hh, _⟩
            · cases hv
            · injection hv with hv _ _
              cases hv
              have he' : D = g' := he
              rw [he', hh] at hD
              cases hD
        have hz4 : T8 + 2 ≤ w4.heap.size := by
          have := hgrow.size
          rw [size_alloc', size_alloc'] at this
          omega
        obtain ⟨Bx, hBx⟩ : ∃ Bx, Bx = w4.heap.size := ⟨_, rfl⟩
        obtain ⟨W6, hW6⟩ : ∃ W6, W6 = (w4.setCell ⟨G, 0, none⟩ (.slice (some ⟨gl, 0, none⟩) (i + 1) c6)).alloc (.cells #[.int .u32 (wN Y)] 51) := ⟨_, rfl⟩
        have hs4 : (w4.setCell ⟨G, 0, none⟩ (.slice (some ⟨gl, 0, none⟩) (i + 1) c6)).heap.size = w4.heap.size := by simp [World.setCell]
        have hbx : Boxed W6 Bx 51 (.int .u32 (wN Y)) := by rw [hW6, hBx, ← hs4]; exact Boxed.new _ _ _
        have hz6 : W6.heap.size = Bx + 1 := by rw [hW6, size_alloc', hs4, hBx]
        have hb6 : Below S w W6 := by rw [hW6]; exact (hb4.setCell (p := ⟨G, 0, none⟩) (show S ≤ G by omega) _).alloc (by rw [hs4]; have := HS.out; omega) _
        have hS6 : Blk W6 S 22 #[.slice (some ⟨nb, no, none⟩) n c] := by rw [hW6]; exact (hS4.far (p := ⟨G, 0, none⟩) (show S ≠ G by omega) _).alloc _
        have hG6 : Blk W6 G 23 #[.slice (some ⟨gl, 0, none⟩) (i + 1) c6] := by rw [hW6]; exact (hG4.put 0 _).alloc _
        have h66 : Blk W6 T 51 #[.int .u32 (wN u)] := by rw [hW6]; exact (h64.far (p := ⟨G, 0, none⟩) (show T ≠ G by omega) _).alloc _
        have h76 : Blk W6 (T + 1) 3 #[.int .i64 (left : Nat)] := by rw [hW6]; exact (h74.far (p := ⟨G, 0, none⟩) (show T + 1 ≠ G by omega) _).alloc _
        have h86 : Blk W6 T8 3 #[.int .i64 i] := by rw [hW6]; exact (h84.far (p := ⟨G, 0, none⟩) (show T8 ≠ G by omega) _).alloc _
        have ho6 : Own W6 (T + 2) 3 1 icell (some ⟨gl, 0, none⟩) c6 (l ++ [-1]) := by rw [hW6]; exact (hown4.far (p := ⟨G, 0, none⟩) (blkOf_ne (show gl ≠ G by omega)) _).alloc _
        have ht6 : TabOk W6 := htab0.out.below hb6 h0w
        have hm6 : Marks S ds W6 := by
          rw [hW6]
          exact (hm4.setCell (p := ⟨G, 0, none⟩) _ (fun o ho e => by
            have := hG4.isCells o ho
            rw [e] at this; cases this)).alloc _
        have hBz : T8 + 2 ≤ Bx := by rw [hBx]; exact hz4
        have hglB : gl < Bx := by rw [hBx]; exact hgl2
        rw [← hBx, ← hT8, ← hW6]
        have HBX := Lib.hid hbx
        have HB6 := Lib.hid hb6
        have HS6 := Lib.hid hS6
        have HG6 := Lib.hid hG6
        have H66 := Lib.hid h66
        have H76 := Lib.hid h76
        have H86 := Lib.hid h86
        have HO6 := Lib.hid ho6
        have HT6 := Lib.hid ht6
        have HM6 := Lib.hid hm6
        have hTz : T + 1 < T8 := by omega
        clear hown4 hgrow hloc hG4 h64 hb4 hS4 h74 h84 ht4 hm4 hBx hW6 hs4 hbx hb6 hS6 hG6 h66 h76 h86 ho6 ht6 hm6 HO1 HNE HNE6 HNE7 HNES HNE8 HLOW HB HKS HKG HK6 HK7 HO HT HMK hT8
        have hmarks : ∀ (D : Nat) (W : World), W6.heap.size ≤ D → Held [gl, T, T + 1, Bx] W6 W → W.heap[D]? = some (.deferred (some [])) → Marks S ({ target := .collected D, args := #[] } :: ds) W := fun D W hD hh hdef =>
          HM6.out.cons hz6 (by omega) (by omega) (fun k hk he => (hh.block k (by omega) (fun hm => by
            have hcell : (Obj.deferred (some [])).isCells = true := by
              simp only [List.mem_cons, List.not_mem_nil, or_false] at hm
              rcases hm with rfl | rfl | rfl | rfl
              · exact HO6.out.isCells _ he
              · exact H66.out.isCells _ he
              · exact H76.out.isCells _ he
              · exact (show Blk W6 k 51 #[.int .u32 (wN Y)] from HBX.out).isCells _ he
            cases hcell)).trans he) hdef
        have HMARKS := Lib.hid hmarks
        refine wpIn_wide.1 (wpIn_bits (p := 32) (q := 10) 9 67 Bx 51 (.int .u32 (wN Y)) (bitsL Y) [gl, T, T + 1, Bx] rfl (enters_of Tryd.func67 (by kernel_rfl) rfl)
          (Each1_seq _ _ _ (by omega)) HBX.out HT6.out (by simp)
          (MostI near i (T + 2) gl c6 T (T + 1) l u left) (MostX near i (T + 2) gl c6 T (T + 1) l u left)
          (fun s X Y row h hg hrow => by obtain ⟨h1, h3, h4, h5⟩ := h; exact ⟨h1, own_kept h3 hg hrow, blk_kept h4 hg hrow, blk_kept h5 hg hrow⟩)
          (fun cd s X Y row h hg hrow => by obtain ⟨h0, j, h1, h2, h6, h3, h4, h5⟩ := h; exact ⟨h0, j, h1, h2, h6, own_kept h3 hg hrow, blk_kept h4 hg hrow, blk_kept h5 hg hrow⟩)
          (fun s X v h => by obtain ⟨h1, h3, h4, h5⟩ := h; exact ⟨h1, h3.far (p := ⟨Bx, 0, none⟩) (blkOf_ne (show gl ≠ Bx by omega)) v, h4.far (show T ≠ Bx by omega) v, h5.far (show T + 1 ≠ Bx by omega) v⟩)
          ⟨by simp, HO6.out, H66.out, H76.out⟩ ?assign ?body ?done ?stop)
        case assign =>
          intro l' j W K hK
          simp only [List.setIfInBounds_toArray, List.set_cons_succ, List.set_cons_zero] at hK ⊢
          gi_wp2_with fail
          exact hK
        case body =>
          intro l' pre j W hh hi2 hpre
          obtain ⟨hno, hoW, h6W, h7W⟩ := hi2
          have hmem : j ∈ bitsL Y := by
            obtain ⟨z, hz⟩ := hpre
            rw [← hz]; simp
          obtain ⟨hXj, huj⟩ := (HY.out j).1 hmem
          have hj8 : j < 8 := HW.out i j (by unfold Nr; rw [← HXX.out]; exact hXj)
          obtain ⟨z, hz⟩ : ∃ z, z = wOr u (wShl w1 j) := ⟨_, rfl⟩
          have hza : z = wAdd u (wShl w1 j) := by rw [hz, or_add huj]
          have hbW : Below S w W := HB6.out.trans (hh.to (B := S) (by omega) (by simp; omega))
          have hSW := HS6.out.held hh (by simp; omega)
          have hGW := HG6.out.held hh (by simp; omega)
          have h8W := H86.out.held hh (by simp; omega)
          have htW : TabOk W := htab0.out.below hbW h0w
          have hzW := hh.size
          have hSW' := hSW.lt
          have hGW' := hGW.lt
          have h8W' := h8W.lt
          have h6W' := h6W.lt
          have h7W' := h7W.lt
          have hglW := hoW.lt gl rfl
          have hrW : Els W.drew W.drew.heap.size 1 wcell (some ⟨nb, no, none⟩) near := ((HR0.out.below hbW).more (show S ≤ W.heap.size by omega))
          have HWO := Lib.hid (pairs_without near n HN.out h8 (some ⟨nb, no, none⟩) c (i + 1) hc (by omega) z W.drew hrW)
          have hlist : Hid (((near.drop (i + 1)).map fun x => wBut x z).length = n - (i + 1) ∧ (∀ k q, Nr ((near.drop (i + 1)).map fun x => wBut x z) k q → q < 8) ∧ mF ((near.drop (i + 1)).map fun x => wBut x z) w0 = mF (near.drop (i + 1)) z) := Lib.hid (by
            refine ⟨by rw [List.length_map, List.length_drop, HN.out], fun k q hq => ?_, mF_but _ z w0 z fun m => by rw [b_0, Bool.or_false]⟩
            unfold Nr lw at hq
            by_cases hk : k < (near.drop (i + 1)).length
            · rw [getD_at _ k (by rw [List.length_map]; exact hk), List.getElem_map, b_but] at hq
              rw [Bool.and_eq_true] at hq
              refine HW.out (i + 1 + k) q ?_
              unfold Nr
              rw [lw_at near (i + 1 + k) (by rw [List.length_drop] at hk; omega)]
              rw [List.getElem_drop] at hq
              exact hq.1
            · rw [List.getD_eq_getElem?_getD, List.getElem?_eq_none (by rw [List.length_map]; omega)] at hq
              have : w0.getLsbD q = true := hq
              rw [b_0] at this; cases this)
          have hpb : mF (near.drop (i + 1)) z ≤ 8 := Nat.le_trans (mF_le _ _) (by rw [List.length_drop, HN.out]; omega)
          obtain ⟨p, hp⟩ : ∃ p, p = mF (near.drop (i + 1)) z := ⟨_, rfl⟩
          have hokt : okT (mF (near.drop (i + 1))) (lw near i) u left j = decide (1 + p = left) := by unfold okT; rw [← HXX.out, hXj, huj, hp, ← hza]; simp
          rw [← hp] at hlist hpb
          have hw1' : IntKind.i64.wrap (1 + (p : Int)) = 1 + (p : Int) := IntWalk.i64_in _ (by omega)
          have hwi : IntKind.i64.wrap ((i : Int) + 1) = ((i + 1 : Nat) : Int) := by rw [IntWalk.i64_in _ (by omega)]; omega
          have HFW : Hid (∀ w', Below W.heap.size W w' → w'.cell? ⟨S, 0, none⟩ = some (.slice (some ⟨nb, no, none⟩) n c) ∧ w'.cell? ⟨T8, 0, none⟩ = some (.int .i64 i) ∧ w'.cell? ⟨T, 0, none⟩ = some (.int .u32 (wN u)) ∧ w'.cell? ⟨T + 1, 0, none⟩ = some (.int .i64 (left : Nat))) := Lib.hid (fun w' hb =>
            ⟨(hb.cell (show S < _ by omega)).trans (hSW.cell 0), (hb.cell (show T8 < _ by omega)).trans (h8W.cell 0), (hb.cell (show T < _ by omega)).trans (h6W.cell 0), (hb.cell (show T + 1 < _ by omega)).trans (h7W.cell 0)⟩)
          have HZ := Lib.hid hz
          have HZA := Lib.hid hza
          have HH := Lib.hid hh
          have HNO := Lib.hid hno
          have HOW := Lib.hid hoW
          have H6W := Lib.hid h6W
          have H7W := Lib.hid h7W
          have HGW := Lib.hid hGW
          have H8W := Lib.hid h8W
          have HTW := Lib.hid htW
          have HOK := Lib.hid hokt
          have HPRE := Lib.hid hpre
          clear hh hno hoW h6W h7W hGW h8W hSW htW hrW hp hokt hza hbW hpre hmem
          simp only [List.setIfInBounds_toArray, List.set_cons_succ, List.set_cons_zero]
          gi_wp2_with fail
          refine region_round 11 12 (fun w' => Below W.heap.size W w') (by kernel_rfl) rfl (by kernel_rfl) ?_
          refine anyC_reads (by kernel_rfl) [0, 1, 2, 3, 4, 5, 6, 10] ?opl ?ohl 4 _ _ _ (by kernel_rfl) ?okl
          case ohl => (simp only [List.filterMap_cons, List.filterMap_nil, List.getElem?_toArray, List.getElem?_cons_zero, List.getElem?_cons_succ]; try rfl)
          repeat (
            refine readC_step (v := ?_) rfl (fun w' hw' => ?_) ?_
            rotate_left
            focus (obtain ⟨p0, p1, p2, p3⟩ := HFW.out w' hw'; go_simp; try with_reducible rfl)
            go_simp)
          refine readC_nil ?_
          refine anyC_one (i := 7) (by kernel_rfl) rfl rfl (.inr (Below.refl _ W).drew) ?_
          go_simp
          rw [← HZ.out]
          refine HWO.out.mono ?_
          clear HWO
          rintro e w2 ⟨A', cap', rfl, hb2, hown2⟩
          have hb02 : Below W.heap.size W w2 := (Below.refl _ W).drew.trans hb2
          have HM2 := Lib.hid (pairs_many ((near.drop (i + 1)).map fun x => wBut x z) (n - (i + 1)) hlist.out.1 (by omega) hlist.out.2.1 A' cap' w2 hown2.els (HTW.out.below hb02 (by omega)))
          rw [hlist.out.2.2] at HM2
          have HB02 := Lib.hid hb02
          clear hb2 hown2 hb02
          refine anyC_one (i := 8) (by kernel_rfl) rfl rfl (.inr HB02.out) ?_
          go_simp
          refine HM2.out.mono ?_
          clear HM2
          rintro e w3 ⟨rfl, hb3⟩
          have hb03 : Below W.heap.size W w3 := HB02.out.trans (hb3.mono HB02.out.size)
          have HB03 := Lib.hid hb03
          clear hb3 hb03
          refine anyC_one (i := 9) (by kernel_rfl) rfl rfl (.inr HB03.out) ?_
          go_simp
          by_cases hpl : 1 + p = left
          · have hd : ((1 + (p : Int)) == (left : Int)) = true := by rw [beq_iff_eq]; omega
            have hd2 : decide (1 + (p : Int) = (left : Int)) = true := decide_eq_true (by omega)
            refine anyC_one (i := 11) (by kernel_rfl) rfl rfl (.inr HB03.out) ?_
            go_simp
            refine anyC_end (by kernel_rfl) (.inl (by kernel_rfl)) ?_
            have hG3 := HGW.out.below HB03.out hGW'
            have h83 := H8W.out.below HB03.out h8W'
            have h63 := H6W.out.below HB03.out h6W'
            have h73 := H7W.out.below HB03.out h7W'
            have ho3 := HOW.out.below HB03.out (Nat.le_refl _)
            have hil2 : i < (l ++ [(-1 : Int)]).length := by rw [List.length_append, HPL.out]; simp
            obtain ⟨gl', hgl', _, _, y0, y1⟩ := ho3.cell1 (f := fun x : Int => .int .i64 x) (k := i) hil2
            obtain rfl : gl = gl' := by injection hgl' with h; injection h
            have hset : (l ++ [(-1 : Int)]).set i (j : Int) = l ++ [(j : Int)] := by
              rw [← HPL.out, List.set_append_right _ _ (Nat.le_refl _), Nat.sub_self]; rfl
            have ho4 : Own (w3.setCell ⟨gl, i, none⟩ (.int .i64 j)) (T + 2) 3 1 icell (some ⟨gl, 0, none⟩) c6 (l ++ [(j : Int)]) := by rw [← hset]; exact ho3.put1 (f := fun x : Int => .int .i64 x) hil2
            have h64 := h63.far (p := ⟨gl, i, none⟩) (show T ≠ gl by omega) (.int .i64 j)
            have h74 := h73.far (p := ⟨gl, i, none⟩) (show T + 1 ≠ gl by omega) (.int .i64 j)
            have z0 := hG3.cell 0
            have z1 := h83.cell 0
            generalize (l ++ [(-1 : Int)])[i] = y at y0
            obtain ⟨W4, hW4⟩ : ∃ W4, W4 = w3.setCell ⟨gl, i, none⟩ (.int .i64 j) := ⟨_, rfl⟩
            rw [← hW4] at ho4 h64 h74
            have hiI : (i : Int) < (i : Int) + 1 := by omega
            have HW4 := Lib.hid hW4
            have HO4 := Lib.hid ho4
            have H64 := Lib.hid h64
            have H74 := Lib.hid h74
            have u0 := h64.cell 0
            have u1 := h64.frozen 0
            have HH4 : Hid (Held [gl, T, T + 1] W W4) := Lib.hid (by rw [hW4]; exact ((Held.refl _ W).below HB03.out (Nat.le_refl _)).setCell (p := ⟨gl, i, none⟩) (by simp) _)
            clear hG3 h83 h63 h73 ho3 hgl' hset hW4 ho4 h64 h74
            gi_wp2_with fail
            rw [← HW4.out]
            clear y0 y1 z0 z1
            refine region_round 4 5 (fun w' => w' = W4.drew) (by kernel_rfl) rfl (by kernel_rfl) ?_
            refine anyC_reads (by kernel_rfl) [0, 1, 2, 3] ?opm ?ohm 1 _ _ _ (by kernel_rfl) ?okm
            case ohm => (simp only [List.filterMap_cons, List.filterMap_nil, List.getElem?_toArray, List.getElem?_cons_zero, List.getElem?_cons_succ]; try rfl)
            repeat (
              refine readC_step (v := ?_) rfl (fun w' hw' => ?_) ?_
              rotate_left
              focus (subst hw'; go_simp; try with_reducible rfl)
              go_simp)
            refine readC_nil ?_
            refine anyC_one (i := 4) (by kernel_rfl) rfl rfl (.inr rfl) ?_
            go_simp
            refine anyC_end (by kernel_rfl) (.inl (by kernel_rfl)) ?_
            rw [← HZ.out]
            obtain ⟨W5, hW5⟩ : ∃ W5, W5 = (W4.setCell ⟨T, 0, none⟩ (.int .u32 (wN z))).drew := ⟨_, rfl⟩
            have h65 : Blk W5 T 51 #[.int .u32 (wN z)] := by rw [hW5]; exact (H64.out.put 0 _).drew
            have h75 : Blk W5 (T + 1) 3 #[.int .i64 (left : Nat)] := by rw [hW5]; exact (H74.out.far (p := ⟨T, 0, none⟩) (show T + 1 ≠ T by omega) _).drew
            have ho5 : Own W5 (T + 2) 3 1 icell (some ⟨gl, 0, none⟩) c6 (l ++ [(j : Int)]) := by rw [hW5]; exact (HO4.out.far (p := ⟨T, 0, none⟩) (blkOf_ne (show gl ≠ T by omega)) _).drew
            have HH5 : Hid (Held [gl, T, T + 1] W W5) := Lib.hid (by rw [hW5]; exact (HH4.out.setCell (p := ⟨T, 0, none⟩) (by simp) _).drew1)
            rw [← hW5]
            have v0 := h75.cell 0
            have v1 := h75.frozen 0
            have H65 := Lib.hid h65
            have H75 := Lib.hid h75
            have HO5 := Lib.hid ho5
            clear u0 u1 hW5 h65 h75 ho5
            gi_wp2_with fail
            have hall : Held [gl, T, T + 1] W (W5.setCell ⟨T + 1, 0, none⟩ (.int .i64 ((left : Int) - 1))) := HH5.out.setCell (p := ⟨T + 1, 0, none⟩) (by simp) _
            have hcells : ∀ k ∈ [gl, T, T + 1], ∀ o : Obj, W.heap[k]? = some o → o.isCells = true := fun k hk o ho => by
              simp only [List.mem_cons, List.not_mem_nil, or_false] at hk
              rcases hk with rfl | rfl | rfl
              · exact HOW.out.isCells o ho
              · exact H6W.out.isCells o ho
              · exact H7W.out.isCells o ho
            have hokj : okT (mF (near.drop (i + 1))) (lw near i) u left j = true := by rw [HOK.out]; exact decide_eq_true hpl
            refine ⟨KeepsFrom.held hall hcells, HH.out.then hall (fun k hk _ => by simp at hk ⊢; omega), rfl, j, hj8, hokj, ?_, HO5.out.far (p := ⟨T + 1, 0, none⟩) (blkOf_ne (show gl ≠ T + 1 by omega)) _, by rw [← HZA.out]; exact H65.out.far (p := ⟨T + 1, 0, none⟩) (show T ≠ T + 1 by omega) _, H75.out.put 0 _⟩
            refine tk_least hokj (fun j' hj' => ?_) 8 (by omega) (by omega) hj8
            cases hb : okT (mF (near.drop (i + 1))) (lw near i) u left j' with
            | false => rfl
            | true =>
              have hb' := hb
              unfold okT at hb'
              rw [Bool.and_eq_true, Bool.and_eq_true] at hb'
              have hy : Y.getLsbD j' = true := mem_bitsL.1 ((HY.out j').2 ⟨by rw [HXX.out]; exact hb'.1.1, by simpa using hb'.1.2⟩)
              rw [HNO.out j' (bits_ahead HPRE.out hy hj')] at hb
              cases hb
          · have hd : ((1 + (p : Int)) == (left : Int)) = false := by rw [beq_eq_false_iff_ne]; omega
            have hd2 : decide (1 + (p : Int) = (left : Int)) = false := decide_eq_false (by omega)
            refine anyC_one (i := 11) (by kernel_rfl) rfl rfl (.inr HB03.out) ?_
            go_simp
            refine anyC_end (by kernel_rfl) (.inl (by kernel_rfl)) ?_
            have HPN := Lib.hid hpl
            clear hpl
            gi_wp2_with fail
            refine ⟨KeepsFrom.below HB03.out (Nat.le_refl _), KpE.below HB03.out (by omega) (by omega), HH.out.below HB03.out (Nat.le_refl _), fun q hq => ?_, HOW.out.below HB03.out (Nat.le_refl _), H6W.out.below HB03.out h6W', H7W.out.below HB03.out h7W'⟩
            rcases List.mem_append.1 hq with h | h
            · exact HNO.out q h
            · rw [List.mem_singleton.1 h, HOK.out]
              exact decide_eq_false HPN.out
        case done =>
          intro D W hD hh hi2 hdef
          obtain ⟨hno, hoW, h6W, h7W⟩ := hi2
          have hnone : ∀ j, j < 8 → okT (mF (near.drop (i + 1))) (lw near i) u left j = false := fun j _ => by
            cases hb : okT (mF (near.drop (i + 1))) (lw near i) u left j with
            | false => rfl
            | true =>
              have hb' := hb
              unfold okT at hb'
              rw [Bool.and_eq_true, Bool.and_eq_true] at hb'
              rw [hno j ((HY.out j).2 ⟨by rw [HXX.out]; exact hb'.1.1, by simpa using hb'.1.2⟩)] at hb
              cases hb
          have HS2 : Hid (pairsTo near (i + 1) = (l ++ [-1], u)) := Lib.hid (by rw [HST.out, tk_none hnone, if_neg (by omega)])
          have HLE : Hid (mF (near.drop (i + 1)) u = left) := Lib.hid (by
            have := left_none HW.out hil (u := u) (by rw [← HLEFT.out]; exact hnone)
            rw [← this, ← HLEFT.out])
          have hbW : Below S w W := HB6.out.trans (hh.to (B := S) (by omega) (by simp; omega))
          have HBW := Lib.hid hbW
          have HSW := Lib.hid (HS6.out.held hh (by simp; omega))
          have HGW := Lib.hid (HG6.out.held hh (by simp; omega))
          have HTW : Hid (TabOk W) := Lib.hid (htab0.out.below hbW h0w)
          have HMK := Lib.hid (HMARKS.out D W hD hh hdef)
          have HOW := Lib.hid hoW
          have H6W := Lib.hid h6W
          have H7W := Lib.hid h7W
          clear hh hno hoW h6W h7W hdef hnone hbW
          go_wp2_with fail
          refine HK.out _ _ _ ?_ ⟨i + 1, some ⟨gl, 0, none⟩, c6, by omega, ?_, HBW.out, HSW.out, HGW.out, by rw [HS2.out]; exact H6W.out, by rw [HS2.out, HLE.out]; exact H7W.out, by rw [HS2.out]; exact HOW.out, HTW.out, HMK.out⟩ ?_
          · simp only [patch, slot, List.foldl_cons, List.foldl_nil, List.set_cons_succ, List.set_cons_zero, List.getD_cons_succ, List.getD_cons_zero]
          · simp only [slot, List.getD_cons_succ, List.getD_cons_zero]; go_num
          · simp only [slot, List.getD_cons_succ, List.getD_cons_zero]; rw [HG20.out]; simp [intOf]; omega
        case stop =>
          rintro D cd pre W hD hpre hh ⟨rfl, j, hj8, hok, htk, hoW, h6W, h7W⟩ hdef
          have HS2 : Hid (pairsTo near (i + 1) = (l ++ [(j : Int)], wAdd u (wShl w1 j))) := Lib.hid (by rw [HST.out, htk, if_pos (by omega), Int.toNat_natCast])
          have HLE : Hid (((mF (near.drop (i + 1)) (wAdd u (wShl w1 j)) : Nat) : Int) = (left : Int) - 1) := Lib.hid (by
            have := left_take (near := near) (i := i) (j := j) (u := u) (by rw [← HLEFT.out]; exact hok)
            rw [← HLEFT.out] at this
            omega)
          have hbW : Below S w W := HB6.out.trans (hh.to (B := S) (by omega) (by simp; omega))
          have HBW := Lib.hid hbW
          have HSW := Lib.hid (HS6.out.held hh (by simp; omega))
          have HGW := Lib.hid (HG6.out.held hh (by simp; omega))
          have HTW : Hid (TabOk W) := Lib.hid (htab0.out.below hbW h0w)
          have HMK := Lib.hid (HMARKS.out D W hD hh hdef)
          have HOW := Lib.hid hoW
          have H6W := Lib.hid h6W
          have H7W := Lib.hid h7W
          clear hh hoW h6W h7W hdef hok htk hbW hpre
          gi_wp2_with fail
          go_wp2_with fail
          refine HK.out _ _ _ ?_ ⟨i + 1, some ⟨gl, 0, none⟩, c6, by omega, ?_, HBW.out, HSW.out, HGW.out, by rw [HS2.out]; exact H6W.out, by rw [HS2.out, HLE.out]; exact H7W.out, by rw [HS2.out]; exact HOW.out, HTW.out, HMK.out⟩ ?_
          · simp only [patch, slot, List.foldl_cons, List.foldl_nil, List.set_cons_succ, List.set_cons_zero, List.getD_cons_succ, List.getD_cons_zero]
          · simp only [slot, List.getD_cons_succ, List.getD_cons_zero]; go_num
          · simp only [slot, List.getD_cons_succ, List.getD_cons_zero]; rw [HG20.out]; simp [intOf]; omega
      · obtain rfl : i = n := by omega
        have x0 := HKG.out.cell 0
        go_wp2_with fail
        refine bodyPostM_ret HMK.out fun w' hw' => ⟨.tuple #[.slice A5 i c5, .int .i64 0], by simp [results, Tryd.results11, go_sem], ?_⟩
        refine ⟨A5, i, c5, by rw [HZ.out], by rw [← HS.out]; exact HB.out.trans hw'.1, fun h => absurd HZ.out h, fun _ => ⟨rfl, ?_⟩⟩
        rw [← HLL.out]
        exact (HO.out.shut hw').els
  · have h1 : (pairsCheck near != 0) = true := by simpa using h0
    obtain ⟨pc, hpc⟩ : ∃ pc, pc = pairsCheck near := ⟨_, rfl⟩
    rw [← hpc] at h0 h1 ⊢
    have H0 := Lib.hid h0
    have HPC := Lib.hid hpc
    clear hpc h0
    go_wp2_with fail
    refine bodyPostM_ret (Marks.nil S v1) fun w' hw' => ⟨.tuple #[.slice none 0 0, .int .i64 pc], by simp [results, Tryd.results11, go_sem], ?_⟩
    exact ⟨none, 0, 0, by rw [HPC.out], by rw [← HS.out]; exact HBV.out.trans hw'.1, fun _ => rfl, fun h => absurd (HPC.out.trans h) H0.out⟩
end Go.Proofs.YtokmialpclcodaaDoor
