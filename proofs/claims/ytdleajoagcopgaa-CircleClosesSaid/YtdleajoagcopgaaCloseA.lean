/- Adding edges by degrees: the program's way. Conditions: the edges read as a list and may be. -/
import Derived.Test.YtdleajoagcopgaaCloseP
import Derived.Test.YtdleajoagcopgaaNear
import Derived.Test.YtdleajoagcopgaaInts
import Derived.Test.YtdleajoagcopgaaExt
import Derived.BigQuiet
import Derived.IntWalk
import Derived.WalkSpells
import Derived.WalkMore
namespace Go.Proofs.Ytdleajoagcopgaa
open Go.RowKit
attribute [local go_sem ↓] w_and w_or w_xor w_andNot w_and1 w_shl w_shl1 w_shr
attribute [local go_sem] w_eq0 w_ne0 w_eq1 w_eq w_ne

set_option maxRecDepth 100000 in
theorem Clone_eds (A : Option Addr) (n c : Nat) (l : List Ed) (w : World) (hl : l.length = n) (hn : n ≤ 64) (hr : Els w w.heap.size 3 Ed.cells A l) :
    Calls Try.prog 15 #[.slice A n c] w fun e w' => ∃ A' cap, e = .returned (.slice A' n cap) ∧ Below w.heap.size w w' ∧ Own w' w.heap.size 46 3 Ed.cells A' cap l := by
  have HL := Lib.hid hl
  have HR := Lib.hid hr
  clear hl hr
  cases A with
  | none =>
    have h0 : n = 0 := by
      by_cases h : 0 < l.length
      · obtain ⟨b, off, he, _⟩ := HR.out h
        cases he
      · have := HL.out; omega
    subst h0
    have hnil : l = [] := List.length_eq_zero_iff.1 HL.out
    subst hnil
    clear HR HL
    have hq : ∀ W : World, (binOp .eql 22 (.slice none 0 c) (.slice none 0 0)).run Try.prog W = .ok (.bool true) W := fun W => Lib.run_eql_slice_nil W 22 46 none 0 c 0 0 Try.underlying22
    go_enter Try.func15, Try.ntmps15
    go_wp2_with fail
    go_ret
    exact ⟨none, 0, rfl, Below.refl _ _, Own.nil _ _ _ (fun _ => rfl)⟩
  | some p =>
    have hO2 : Own (w.alloc (.cells #[] 46)) w.heap.size 46 3 Ed.cells (some ⟨w.heap.size, 0, none⟩) 0 ([] : List Ed) :=
      Own.lit (f := Ed.cells) (c := 3) w w.heap.size 46 #[] (fun _ => rfl) [] 0 rfl rfl (by unfold maxLen; omega) (Nat.le_refl _)
    have HO2 := Lib.hid hO2
    have hb0 := (Below.refl w.heap.size w).alloc (Nat.le_refl _) (.cells #[] 46)
    have HB0 := Lib.hid hb0
    have HE2 := Lib.hid (HR.out.below hb0)
    clear hO2 hb0
    have hq : ∀ W : World, (binOp .eql 22 (.slice (some p) n c) (.slice none 0 0)).run Try.prog W = .ok (.bool false) W := fun W => Lib.run_eql_slice_nil W 22 46 (some p) n c 0 0 Try.underlying22
    go_enter Try.func15, Try.ntmps15
    go_wp2_with (at_builtin; go_loud (refine wpList_append_els rfl _ _ _ rfl w.heap.size 3 46 (.agg #[.int .i64 0, .int .i64 0, .int .i64 0]) 24 Try.underlying22 (by kernel_rfl) rfl (by omega) Ed.cells _ (some ⟨w.heap.size, 0, none⟩) 0 0 [] rfl rfl HO2.out _ _ _ l HL.out rfl _ HE2.out (one_flat (fun a u hu => by simp at hu; rcases hu with rfl | rfl | rfl <;> rfl) _) (by unfold maxLen; omega) (by omega) (by rw [size_alloc']; exact Nat.le_succ _) ?_; intro A2 cap2 w3 hown2 hgrow2 hloc2))
    rw [List.nil_append] at hown2
    have HO := Lib.hid hown2
    have HB := Lib.hid (HB0.out.grown hgrow2 (by rw [size_alloc']; omega) (fun g hg => by simp [blkOf] at hg; omega))
    clear hown2 hgrow2 hloc2
    go_ret
    exact ⟨A2, cap2, rfl, HB.out, HO.out⟩

def lenAt (w : World) (p : Addr) : Nat := match w.cell? p with
  | some (.slice _ n _) => n
  | _ => 0
theorem lenAt_is {w : World} {p : Addr} {A : Option Addr} {n c : Nat} (h : w.cell? p = some (.slice A n c)) : lenAt w p = n := by unfold lenAt; rw [h]
set_option maxRecDepth 100000 in
set_option maxHeartbeats 4000000 in
theorem circle_Close (N : Int) (A : Option Addr) (n c : Nat) (l : List Ed) (w : World) (hl : l.length = n) (hn : n ≤ maxLen) (hr : Els w w.heap.size 3 Ed.cells A l) :
    Calls Try.prog 5 #[.agg #[.int .i64 N, .slice A n c]] w fun e w' => ∃ (N2 : Int) (A2 : Option Addr) (n2 c2 : Nat), e = .returned (.tuple #[.agg #[.int .i64 N2, .slice A2 n2 c2], .int .i64 (graphCheck N l)]) ∧ Below w.heap.size w w' ∧
      (graphCheck N l ≠ 0 → N2 = 0 ∧ n2 = 0) ∧ (graphCheck N l = 0 → N2 = N ∧ ∃ R, Closes N.toNat l R ∧ R.length = n2 ∧ n2 ≤ 45 ∧ Els w' w'.heap.size 3 Ed.cells A2 R) := by
  have HC : Hid (∀ v : World, Below w.heap.size w v → Calls Try.prog 14 #[.agg #[.int .i64 N, .slice A n c]] v fun e w' => e = .returned (.int .i64 (graphCheck N l)) ∧ Below v.heap.size v w') := Lib.hid (fun v hb =>
    graph_Check N A n c l v hl hn ((hr.below hb).more hb.size))
  have HB0 := Lib.hid (((Below.refl w.heap.size w).alloc (Nat.le_refl _) (.cells #[.int .i64 N, .slice A n c] 24)).alloc (by simp) (.cells #[.int .i64 0, .slice none 0 0] 24))
  have hk0 := (Blk.new w 24 #[.int .i64 N, .slice A n c]).alloc (.cells #[.int .i64 0, .slice none 0 0] 24)
  have hk1 := Blk.new (w.alloc (.cells #[.int .i64 N, .slice A n c] 24)) 24 #[.int .i64 0, .slice none 0 0]
  rw [size_alloc'] at hk1
  have HK0 := Lib.hid hk0
  have HK1 := Lib.hid hk1
  have hsz1 : ((w.alloc (.cells #[.int .i64 N, .slice A n c] 24)).alloc (.cells #[.int .i64 0, .slice none 0 0] 24)).heap.size = w.heap.size + 2 := by rw [size_alloc', size_alloc']
  have HSZ := Lib.hid hsz1
  clear hk0 hk1 hsz1
  by_cases h0 : graphCheck N l = 0
  · obtain ⟨N', rfl, hgood⟩ := graph_good h0
    have HG := Lib.hid hgood
    have hN10 := hgood.n10
    have hn45 : n ≤ 45 := by have := hgood.m45; omega
    have HCL : Hid (∀ v : World, Below w.heap.size w v → Calls Try.prog 15 #[.slice A n c] v fun e w' => ∃ A' cap, e = .returned (.slice A' n cap) ∧ Below v.heap.size v w' ∧ Own w' v.heap.size 46 3 Ed.cells A' cap l) := Lib.hid (fun v hb =>
      Clone_eds A n c l v hl (by omega) ((hr.below hb).more hb.size))
    have HL := Lib.hid hl
    rw [h0] at HC ⊢
    clear hl hn hr hgood h0
    go_enter Try.func5, Try.ntmps5
    go_wp2_with fail
    go_step3
    go_wp2_with fail
    refine (HC.out _ HB0.out).mono ?_
    clear HC
    rintro e v1 ⟨rfl, hb1⟩
    have HB1 := Lib.hid (HB0.out.trans (hb1.mono HB0.out.size))
    have HK01 := Lib.hid (HK0.out.below hb1 (by rw [HSZ.out]; omega))
    have HK11 := Lib.hid (HK1.out.below hb1 (by rw [HSZ.out]; omega))
    have hz1 : w.heap.size + 2 ≤ v1.heap.size := by have := hb1.size; rw [HSZ.out] at this; exact this
    have c1 := HK01.out.cell 1
    clear hb1 HB0 HK0 HK1 HSZ
    go_wp2_with fail
    refine (HCL.out _ HB1.out).mono ?_
    clear HCL
    rintro e v2 ⟨A2, cap2, rfl, hb2, hown2⟩
    have HB2 := Lib.hid (HB1.out.trans (hb2.mono HB1.out.size))
    have HK02 := Lib.hid (HK01.out.below hb2 (by omega))
    have HK12 := Lib.hid (HK11.out.below hb2 (by omega))
    have hz2 := hb2.size
    have c1 := HK02.out.cell 1
    have f1 := HK02.out.frozen 1
    have hp := HK02.out.put 1 (.slice A2 n cap2)
    have c00 := hp.cell 0
    have c11 := hp.cell 1
    have HO2 := Lib.hid ((hown2.weaken (show w.heap.size + 2 ≤ v1.heap.size by omega)).low (p := ⟨w.heap.size, 1, none⟩) (show w.heap.size < w.heap.size + 2 by omega) (.slice A2 n cap2))
    have HP := Lib.hid hp
    have HB3 := Lib.hid (HB2.out.setCell (p := ⟨w.heap.size, 1, none⟩) (show w.heap.size ≤ w.heap.size by omega) (.slice A2 n cap2))
    have HK13 := Lib.hid (HK12.out.far (p := ⟨w.heap.size, 1, none⟩) (show w.heap.size + 1 ≠ w.heap.size by omega) (.slice A2 n cap2))
    clear hb2 hown2 hp HB1 HK01 HK11 HK02 HK12 HB2
    go_wp2_with fail
    have HNR := Lib.hid (graph_Near N' A2 n cap2 l (v2.setCell ⟨w.heap.size, 1, none⟩ (.slice A2 n cap2)) HL.out HG.out HO2.out.els)
    refine HNR.out.mono ?_
    clear HNR c00 c11
    rintro e v3 ⟨An, rfl, hb4, hnear⟩
    have HB4 := Lib.hid (HB3.out.trans (hb4.mono HB3.out.size))
    have hz4 : v2.heap.size ≤ v3.heap.size := by have := hb4.size; simp at this; exact this
    have HK04 := Lib.hid (HP.out.below hb4 (by simp; omega))
    have HK14 := Lib.hid (HK13.out.below hb4 (by simp; omega))
    have HO4 := Lib.hid (HO2.out.below hb4 (Nat.le_refl _))
    have HNE := Lib.hid (hnear.weaken (show w.heap.size + 2 ≤ (v2.setCell ⟨w.heap.size, 1, none⟩ (.slice A2 n cap2)).heap.size + 1 by simp; omega))
    clear hb4 hnear HO2 HP HB3 HK13
    go_wp2_with fail
    go_step3
    go_wp2_with fail
    go_loopw [22] (fun _ wr => ∃ (l' : List Ed) (A' : Option Addr) (cap m : Nat), l'.length = m ∧ GoodG N' l' ∧ (∀ R, Closes N' l' R → Closes N' l R) ∧ Below w.heap.size w wr ∧ Blk wr w.heap.size 24 #[.int .i64 N', .slice A' m cap] ∧ Blk wr (w.heap.size + 1) 24 #[.int .i64 0, .slice none 0 0] ∧
      Own wr (w.heap.size + 2) 46 3 Ed.cells A' cap l' ∧ Own wr (w.heap.size + 2) 49 1 wcell An N' (nearL N' l')) (fun _ wr => 46 - lenAt wr ⟨w.heap.size, 1, none⟩)
    case atStart => exact ⟨l, A2, cap2, n, HL.out, HG.out, fun R h => h, HB4.out, HK04.out, HK14.out, HO4.out, HNE.out⟩
    case round =>
      clear HB4 HK04 HK14 HO4 HNE hz1 hz2 hz4 HG HL hn45
      rename World => wr
      obtain ⟨l', A', cap, m, hm, hg, hcl, hb, hk0, hk1, ho, hne⟩ := hrel
      have hm45 : m ≤ 45 := by have := hg.m45; omega
      have HM := Lib.hid hm
      have HG := Lib.hid hg
      have HCL := Lib.hid hcl
      have HB := Lib.hid hb
      have HK0 := Lib.hid hk0
      have HK1 := Lib.hid hk1
      have HO := Lib.hid ho
      have HNE := Lib.hid hne
      have hz := hb.size
      have hzk := hk1.lt
      have c0 := hk0.cell 0
      clear hm hg hcl hb hk0 hk1 ho hne
      go_wp2_with fail
      go_loopw [22] (fun s22 w3 => ∃ k q : Nat, k ≤ N' ∧ s22 = .int .i64 k ∧ w3 = wr.drewN q ∧ NoneTo N' l' k (k + 1)) (fun s22 _ => N' - (intOf s22).toNat)
      case atStart => exact ⟨0, 0, by omega, rfl, rfl, NoneTo.start _ _⟩
      case round =>
        obtain ⟨k, q, hk, rfl, rfl, hno⟩ := hrel
        have HNO := Lib.hid hno
        clear hno
        by_cases hlt : k < N'
        · go_wp2_with fail
          go_loopw [7] (fun s7 w4 => ∃ b q : Nat, k + 1 ≤ b ∧ b ≤ N' ∧ s7 = .int .i64 b ∧ w4 = wr.drewN q ∧ NoneTo N' l' k b) (fun s7 _ => N' - (intOf s7).toNat)
          case atStart => exact ⟨k + 1, q, by omega, by omega, by go_num, rfl, HNO.out⟩
          case round =>
            clear HNO
            obtain ⟨b, q, hkb, hbN, rfl, rfl, hno⟩ := hrel
            have HNO := Lib.hid hno
            clear hno
            by_cases hlt2 : b < N'
            · obtain ⟨L, hL⟩ : ∃ L, L = nearL N' l' := ⟨_, rfl⟩
              have hLl : L.length = N' := by rw [hL, nearL_length]
              have hO1 : Own wr (w.heap.size + 2) 49 1 wcell An N' L := by rw [hL]; exact HNE.out
              have hadj : (wAnd (wShr (lw L k) b) w1 == w0) = !adj l' k b := by rw [shr_and0, hL, near_bit HG.out hlt]
              have hpa : pop (lw L k) = deg l' k := by rw [hL]; exact pop_near HG.out hlt
              have hpb : pop (lw L b) = deg l' b := by rw [hL]; exact pop_near HG.out hlt2
              have hokp : okP N' l' k b = (!adj l' k b && decide (N' ≤ pop (lw L k) + pop (lw L b))) := by rw [hpa, hpb]; rfl
              have hsn : nearL N' (l' ++ [edOf k b]) = (L.set k (wOr (lw L k) (wShl w1 b))).set b (wOr (lw L b) (wShl w1 k)) := by rw [nearL_snoc, ← hL]; rfl
              have HSN := Lib.hid hsn
              have HOKP := Lib.hid hokp
              obtain ⟨gn, rfl, hgn, hgnlt, ca, fa⟩ := hO1.cell1 (f := fun x => .int .u32 (wN x)) (k := k) (by rw [hLl]; exact hlt)
              obtain ⟨gn', hgn', _, _, cb0, fb0⟩ := hO1.cell1 (f := fun x => .int .u32 (wN x)) (k := b) (by rw [hLl]; exact hlt2)
              obtain rfl : gn = gn' := by simpa using hgn'
              rw [← lw_at L k (by rw [hLl]; exact hlt)] at ca
              rw [← lw_at L b (by rw [hLl]; exact hlt2)] at cb0
              have hkb2 : k ≠ b := by omega
              have hO4 := hO1.put1 (f := fun x => .int .u32 (wN x)) (k := k) (x := wOr (lw L k) (wShl w1 b)) (by rw [hLl]; exact hlt)
              obtain ⟨gn2, hgn2, _, _, cb, fb⟩ := hO4.cell1 (f := fun x => .int .u32 (wN x)) (k := b) (by rw [List.length_set, hLl]; exact hlt2)
              obtain rfl : gn = gn2 := by simpa using hgn2
              rw [← lw_at _ b (by rw [List.length_set, hLl]; exact hlt2), lw_set L _ (by rw [hLl]; exact hlt), if_neg hkb2] at cb
              have hO5 := hO4.put1 (f := fun x => .int .u32 (wN x)) (k := b) (x := wOr (lw L b) (wShl w1 k)) (by rw [List.length_set, hLl]; exact hlt2)
              rw [← hsn] at hO5
              have HO5 := Lib.hid hO5
              have hp32a := pop_le (lw L k)
              have hp32b := pop_le (lw L b)
              generalize lw L k = xa at *
              generalize lw L b = xb at *
              have hdif := Own.ne_blk HNE.out HK0.out (by decide)
              have hdif1 := Own.ne_blk HNE.out HK1.out (by decide)
              have hdifE := HO.out.apart HNE.out (by decide)
              have hAne : blkOf A' ≠ some gn := by
                rcases hdifE with h | h
                · rw [h]; simp
                · simpa [blkOf] using h
              have hz' : ∀ z : Nat, Below w.heap.size w (((wr.drewN z).setCell ⟨gn, k, none⟩ (.int .u32 (wN (wOr xa (wShl w1 b))))).setCell ⟨gn, b, none⟩ (.int .u32 (wN (wOr xb (wShl w1 k))))) ∧
                  Blk (((wr.drewN z).setCell ⟨gn, k, none⟩ (.int .u32 (wN (wOr xa (wShl w1 b))))).setCell ⟨gn, b, none⟩ (.int .u32 (wN (wOr xb (wShl w1 k))))) w.heap.size 24 #[.int .i64 N', .slice A' m cap] ∧
                  Blk (((wr.drewN z).setCell ⟨gn, k, none⟩ (.int .u32 (wN (wOr xa (wShl w1 b))))).setCell ⟨gn, b, none⟩ (.int .u32 (wN (wOr xb (wShl w1 k))))) (w.heap.size + 1) 24 #[.int .i64 0, .slice none 0 0] ∧
                  Own (((wr.drewN z).setCell ⟨gn, k, none⟩ (.int .u32 (wN (wOr xa (wShl w1 b))))).setCell ⟨gn, b, none⟩ (.int .u32 (wN (wOr xb (wShl w1 k))))) (w.heap.size + 2) 46 3 Ed.cells A' cap l' ∧
                  Own (((wr.drewN z).setCell ⟨gn, k, none⟩ (.int .u32 (wN (wOr xa (wShl w1 b))))).setCell ⟨gn, b, none⟩ (.int .u32 (wN (wOr xb (wShl w1 k))))) (w.heap.size + 2) 49 1 wcell (some ⟨gn, 0, none⟩) N' (nearL N' (l' ++ [edOf k b])) := fun z =>
                ⟨((below_drewN HB.out z).setCell (p := ⟨gn, k, none⟩) (show w.heap.size ≤ gn by omega) _).setCell (p := ⟨gn, b, none⟩) (show w.heap.size ≤ gn by omega) _,
                 ((HK0.out.drewN z).far (p := ⟨gn, k, none⟩) (show w.heap.size ≠ gn by simpa [blkOf] using hdif) _).far (p := ⟨gn, b, none⟩) (show w.heap.size ≠ gn by simpa [blkOf] using hdif) _,
                 ((HK1.out.drewN z).far (p := ⟨gn, k, none⟩) (show w.heap.size + 1 ≠ gn by simpa [blkOf] using hdif1) _).far (p := ⟨gn, b, none⟩) (show w.heap.size + 1 ≠ gn by simpa [blkOf] using hdif1) _,
                 ((HO.out.drewN z).far (p := ⟨gn, k, none⟩) hAne _).far (p := ⟨gn, b, none⟩) hAne _, HO5.out⟩
              have HZ := Lib.hid hz'
              clear hz'
              have hKB := Lib.hid hkb2
              clear hL hLl hO1 hpa hpb hokp hsn hgn' hO4 hgn2 hO5 hdif hdif1 hdifE hAne hkb2 HO5
              cases had : adj l' k b with
              | true =>
                have hb0 : (wAnd (wShr xa b) w1 == w0) = false := by rw [hadj, had]; rfl
                have HN2 : Hid (okP N' l' k b = false) := Lib.hid (by rw [HOKP.out, had]; rfl)
                clear hadj had
                go_wp2_with fail
                go_quiet (fail)
                go_wp2_with fail
                go_roundw
                case rel => exact ⟨b + 1, _, by omega, by omega, by go_num, rfl, HNO.out.next HN2.out⟩
                case measure => simp [intOf]; omega
              | false =>
                have hb0 : (wAnd (wShr xa b) w1 == w0) = true := by rw [hadj, had]; rfl
                have hw : IntKind.i64.wrap ((pop xa : Int) + (pop xb : Int)) = (pop xa : Int) + (pop xb : Int) := IntWalk.i64_in _ (by omega)
                have HAD := Lib.hid had
                by_cases hge : N' ≤ pop xa + pop xb
                · have hd : decide ((N' : Int) ≤ (pop xa : Int) + (pop xb : Int)) = true := decide_eq_true (by omega)
                  have HN2 : Hid (okP N' l' k b = true) := Lib.hid (by rw [HOKP.out, had, decide_eq_true hge]; rfl)
                  clear hadj had hge
                  go_wp2_with fail
                  go_quiet ((go_at_call 17; first | with_reducible exact quietAN (OnesCount32_any _ _) | with_reducible exact quietN (OnesCount32_any _ _)))
                  go_wp2_with fail
                  go_region
                  go_wp2_with fail
                  go_region
                  obtain ⟨hB5, hK5, hK15, hE5, hN5⟩ := HZ.out (q + nq + 1)
                  have HGS := Lib.hid (good_snoc HG.out (show k < b by omega) hlt2 HAD.out)
                  have HIF : Hid (IsFirst N' l' k b) := Lib.hid ⟨by omega, hlt2, HN2.out, HNO.out⟩
                  clear HZ
                  generalize (((wr.drewN (q + nq + 1)).setCell ⟨gn, k, none⟩ (.int .u32 (wN (wOr xa (wShl w1 b))))).setCell ⟨gn, b, none⟩ (.int .u32 (wN (wOr xb (wShl w1 k))))) = V at *
                  have HB5 := Lib.hid hB5
                  have HK5 := Lib.hid hK5
                  have HK15 := Lib.hid hK15
                  have HE5 := Lib.hid hE5
                  have HN5 := Lib.hid hN5
                  have d1 := hK5.cell 1
                  have hzV := hB5.size
                  have hzV2 := hK15.lt
                  clear hB5 hK5 hK15 hE5 hN5 ca cb fa fb cb0 fb0 hw hd hb0 c0
                  go_wp2_with (at_builtin; go_loud (refine wpList_push rfl _ _ _ rfl (w.heap.size + 2) 3 46 (.agg #[.int .i64 0, .int .i64 0, .int .i64 0]) 24 Try.underlying22 (by kernel_rfl) rfl (by omega) Ed.cells V.drew #[.int .i64 k, .int .i64 b, .int .i64 0] A' m cap l' HM.out rfl (Wex.own (v := V) (by repeat (first | with_reducible exact Wex.refl | with_reducible apply Wex.alloc | with_reducible apply Wex.drew | with_reducible apply Wex.drewN)) HE5.out) 1 [edOf k b] rfl rfl V.heap.size rfl rfl (by simp [Value.oneCell']) (by unfold maxLen; omega) (by omega) (by omega) ?_; intro A5 cap5 w5 hown5 hgrow5 hloc5; have hk5 := (Wex.blk (v := V) (by repeat (first | with_reducible exact Wex.refl | with_reducible apply Wex.alloc | with_reducible apply Wex.drew | with_reducible apply Wex.drewN)) HK5.out).grown hgrow5 (HE5.out.ne_blk HK5.out (by decide)); have e1 := hk5.cell 1; have f1 := hk5.frozen 1; have HK6 := Lib.hid hk5; clear hk5))
                  have HK16 := Lib.hid ((Wex.blk (v := V) (by repeat (first | with_reducible exact Wex.refl | with_reducible apply Wex.alloc | with_reducible apply Wex.drew | with_reducible apply Wex.drewN)) HK15.out).grown hgrow5 (HE5.out.ne_blk HK15.out (by decide)))
                  have HB6 := Lib.hid ((Wex.bel (v := V) (by repeat (first | with_reducible exact Wex.refl | with_reducible apply Wex.alloc | with_reducible apply Wex.drew | with_reducible apply Wex.drewN)) HB5.out hzV).grown hgrow5 (Nat.le_trans hzV (Wex.size (v := V) (by repeat (first | with_reducible exact Wex.refl | with_reducible apply Wex.alloc | with_reducible apply Wex.drew | with_reducible apply Wex.drewN)))) (fun g hg => by have := (HE5.out.lt g hg).1; omega))
                  have HN6 := Lib.hid ((Wex.own (v := V) (by repeat (first | with_reducible exact Wex.refl | with_reducible apply Wex.alloc | with_reducible apply Wex.drew | with_reducible apply Wex.drewN)) HN5.out).kept hgrow5 (HN5.out.apart HE5.out (by decide)))
                  have HO6 := Lib.hid hown5
                  clear hown5 hgrow5 hloc5
                  go_wp2_with fail
                  go_roundw
                  case rel => exact ⟨l' ++ [edOf k b], A5, cap5, m + 1, by rw [List.length_append, HM.out]; rfl, HGS.out, fun R hR => HCL.out R (.step HIF.out hR), HB6.out.setCell (p := ⟨w.heap.size, 1, none⟩) (Nat.le_refl _) _, HK6.out.put 1 _, HK16.out.far (p := ⟨w.heap.size, 1, none⟩) (show w.heap.size + 1 ≠ w.heap.size by omega) _, HO6.out.low (p := ⟨w.heap.size, 1, none⟩) (show w.heap.size < w.heap.size + 2 by omega) _, HN6.out.low (p := ⟨w.heap.size, 1, none⟩) (show w.heap.size < w.heap.size + 2 by omega) _⟩
                  case measure =>
                    have q1 := (HK6.out.put 1 (.slice A5 (m + 1) cap5)).cell 1
                    have q2 := HK0.out.cell 1
                    rw [lenAt_is (A := A5) (n := m + 1) (c := cap5) (by exact q1), lenAt_is (A := A') (n := m) (c := cap) (by exact q2)]
                    omega
                · have hd : decide ((N' : Int) ≤ (pop xa : Int) + (pop xb : Int)) = false := decide_eq_false (by omega)
                  have HN2 : Hid (okP N' l' k b = false) := Lib.hid (by rw [HOKP.out, had, decide_eq_false hge]; rfl)
                  clear hadj had hge
                  go_wp2_with fail
                  go_quiet ((go_at_call 17; first | with_reducible exact quietAN (OnesCount32_any _ _) | with_reducible exact quietN (OnesCount32_any _ _)))
                  go_wp2_with fail
                  go_roundw
                  case rel => exact ⟨b + 1, _, by omega, by omega, by go_num, rfl, HNO.out.next HN2.out⟩
                  case measure => simp [intOf]; omega
            · obtain rfl : b = N' := by omega
              go_wp2_with fail
              go_roundw
              case rel => exact ⟨k + 1, q, by omega, by go_num, rfl, HNO.out.line (Nat.le_refl _)⟩
              case measure => simp [intOf]; omega
        · obtain rfl : k = N' := by omega
          have hdone := HCL.out l' (.stop (HNO.out.done (Nat.le_refl _)))
          have HD := Lib.hid hdone
          have c1 := HK0.out.cell 1
          have d0 := HK1.out.cell 0
          have d1 := HK1.out.cell 1
          have f0 := HK1.out.frozen 0
          have f1 := HK1.out.frozen 1
          clear hdone
          go_wp2_with fail
          rw [Exit.noGoto_ret]
          have hv := ((HK1.out.drewN q).put 0 (.int .i64 k)).put 1 (.slice A' m cap)
          have hv0 := hv.cell 0
          have hv1 := hv.cell 1
          refine bodyPost_ret (v := .tuple #[.agg #[.int .i64 k, .slice A' m cap], .int .i64 0]) (by simp [results, Try.results5, go_sem, hv0, hv1]) rfl ?_
          refine ⟨k, A', m, cap, rfl, ?_, fun h => by simp at h, fun _ => ⟨rfl, l', by rw [Int.toNat_natCast]; exact HD.out, HM.out, hm45, ?_⟩⟩
          · exact ((below_drewN HB.out q).setCell (p := ⟨w.heap.size + 1, 0, none⟩) (show w.heap.size ≤ w.heap.size + 1 by omega) _).setCell (p := ⟨w.heap.size + 1, 1, none⟩) (show w.heap.size ≤ w.heap.size + 1 by omega) _
          · exact (((HO.out.drewN q).low (p := ⟨w.heap.size + 1, 0, none⟩) (show w.heap.size + 1 < w.heap.size + 2 by omega) _).low (p := ⟨w.heap.size + 1, 1, none⟩) (show w.heap.size + 1 < w.heap.size + 2 by omega) _).els
  · have HE := Lib.hid h0
    have h1 : (graphCheck N l != 0) = true := by simpa using h0
    generalize graphCheck N l = x at HC HE h0 h1
    clear hl hn hr h0
    go_enter Try.func5, Try.ntmps5
    go_wp2_with fail
    go_step3
    go_wp2_with fail
    refine (HC.out _ HB0.out).mono ?_
    clear HC
    rintro e v1 ⟨rfl, hb1⟩
    have HB1 := Lib.hid (HB0.out.trans (hb1.mono HB0.out.size))
    have hk1 := HK1.out.below hb1 (by rw [HSZ.out]; omega)
    have c0 := hk1.cell 0
    have c1 := hk1.cell 1
    have f0 := hk1.frozen 0
    have f1 := hk1.frozen 1
    have HK := Lib.hid hk1
    clear hb1 hk1 HB0 HK0 HK1
    go_wp2_with fail
    rw [Exit.noGoto_ret]
    have hv := (HK.out.put 0 (.int .i64 0)).put 1 (.slice none 0 0)
    have hv0 := hv.cell 0
    have hv1 := hv.cell 1
    refine bodyPost_ret (v := .tuple #[.agg #[.int .i64 0, .slice none 0 0], .int .i64 x]) (by simp [results, Try.results5, go_sem, hv0, hv1]) rfl ?_
    exact ⟨0, none, 0, 0, rfl, (HB1.out.setCell (p := ⟨w.heap.size + 1, 0, none⟩) (show w.heap.size ≤ w.heap.size + 1 by omega) _).setCell (p := ⟨w.heap.size + 1, 1, none⟩) (show w.heap.size ≤ w.heap.size + 1 by omega) _, fun _ => ⟨rfl, rfl⟩, fun h => (HE.out h).elim⟩
end Go.Proofs.Ytdleajoagcopgaa
