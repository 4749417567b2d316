/- span.Many: how many forests there are: the walk. Conditions: the edges read as a list; the table. -/
import Derived.Test.YtbbdiondhnmnaaaDoorSpanMany28
import Derived.Test.YtbbdiondhnmnaaaDoorSpanMany32
import Derived.Test.YtbbdiondhnmnaaaDoorSpanMany34
import Derived.Test.YtbbdiondhnmnaaaDoorSpanMany29
import Derived.Test.YtbbdiondhnmnaaaDoorSpanMany4
namespace Go.Proofs.YtbbdiondhnmnaaaDoor
open Go.RowKit Go.Shelf
attribute [local go_sem ↓] w_and w_or w_xor w_andNot w_and1 w_and255 w_xor1 w_or0 w_shl w_shl1 w_shr w_sub w_add w_sub1 w_add1
attribute [local go_sem] w_eq0 w_ne0 w_eq1 w_eq w_ne

theorem w_neg0 (x : BitVec 32) : Op.intArith .sub .u32 0 (wN x) = pure (.int .u32 (wN (wSub w0 x))) := w_sub w0 x
attribute [local go_sem ↓] w_neg0
theorem wL_len : ∀ (l : List Ed) (i j : Nat), wL l i j ≤ 2 * l.length
  | [], _, _ => Int.le_refl _
  | e :: l, i, j => by
    have h1 := wL_len l i j
    have h2 : wE e i j ≤ 2 := by unfold wE; split <;> split <;> decide
    rw [wL, List.length_cons]
    omega
set_option maxRecDepth 100000 in
set_option maxHeartbeats 1000000 in
theorem span_Many_bad (N : Int) (n c : Nat) (A : Option Addr) (l : List Ed) (w : World) (hl : l.length = n) (hn : n ≤ maxLen) (hr : Els w w.heap.size 3 Ed.cells A l) (hx : graphCheck N l ≠ 0) :
    Calls Tryd.prog 4 #[.agg #[.int .i64 N, .slice A n c]] w fun e w' => e = .returned (.tuple #[.int .i64 0, .int .i64 (graphCheck N l)]) ∧ Below w.heap.size w w' := by
  have b0 := Blk.new w 24 #[.int .i64 N, .slice A n c]
  have c0 := b0.cell 0
  have c1 := b0.cell 1
  have hb1 : Below w.heap.size w (w.alloc (.cells #[.int .i64 N, .slice A n c] 24)) := (Below.refl _ w).alloc (Nat.le_refl _) _
  have HC := Lib.hid (graph_Check N A n c l (w.alloc (.cells #[.int .i64 N, .slice A n c] 24)) hl hn ((hr.below hb1).more hb1.size))
  have HB1 := Lib.hid hb1
  have h1 : (graphCheck N l != 0) = true := by simpa using hx
  generalize graphCheck N l = x at HC h1 ⊢
  clear hl hn hr b0 hb1 hx
  go_enter Tryd.func4, Tryd.ntmps4
  go_wp2_with fail
  refine HC.out.mono ?_
  clear HC
  rintro e v1 ⟨rfl, hb2⟩
  have HB2 := Lib.hid (HB1.out.trans (hb2.mono HB1.out.size))
  clear hb2 c0 c1
  go_wp2_with fail
  refine bodyPost_ret (v := .tuple #[.int .i64 0, .int .i64 x]) (by simp [results, Tryd.results4, go_sem]) rfl ?_
  exact ⟨rfl, HB2.out⟩
set_option maxRecDepth 100000 in
set_option maxHeartbeats 2000000 in
theorem span_Many_good (N n c : Nat) (A : Option Addr) (l : List Ed) (p : Nat → Nat) (w : World) (hl : l.length = n) (hg : GoodG N l) (h0 : graphCheck N l = 0) (hp : ∀ j, j < N → IsPart l j (p j)) (hr : Els w w.heap.size 3 Ed.cells A l) (ht : TabOk w) :
    Calls Tryd.prog 4 #[.agg #[.int .i64 N, .slice A n c]] w fun e w' => e = .returned (.tuple #[.int .i64 (rP (wL l) p N N), .int .i64 0]) ∧ Below w.heap.size w w' := by
  have hN10 := hg.n10
  have hn45 : n ≤ 45 := by rw [← hl]; exact hg.m45
  have h0w := ht.1
  obtain ⟨S, hS⟩ : ∃ S, S = w.heap.size := ⟨_, rfl⟩
  have b0 := Blk.new w 24 #[.int .i64 N, .slice A n c]
  have c0 := b0.cell 0
  have c1 := b0.cell 1
  obtain ⟨W1, hW1⟩ : ∃ W1, W1 = w.alloc (.cells #[.int .i64 N, .slice A n c] 24) := ⟨_, rfl⟩
  have hb1 : Below S w W1 := by rw [hW1, hS]; exact (Below.refl _ w).alloc (Nat.le_refl _) _
  have hz1 : W1.heap.size = S + 1 := by rw [hW1, size_alloc', hS]
  have HC := Lib.hid (graph_Check N A n c l W1 hl (by unfold maxLen; omega) ((hr.below (by rw [← hS]; exact hb1)).more (by rw [hz1, hS]; omega)))
  rw [← hW1, ← hS] at b0
  rw [← hS] at hr h0w
  rw [h0] at HC
  have HR := Lib.hid hr
  have HT := Lib.hid ht
  have HB0 := Lib.hid b0
  have HB1 := Lib.hid hb1
  have HL := Lib.hid hl
  have HG := Lib.hid hg
  have HPP := Lib.hid hp
  have HW1 := Lib.hid hW1
  have HS := Lib.hid hS
  rw [← hW1] at c0 c1
  clear hr ht b0 hb1 hl hg hp h0
  go_enter Tryd.func4, Tryd.ntmps4
  rw [← hS]
  rw [← hS] at c0 c1
  clear hS
  go_wp2_with fail
  rw [← HW1.out]
  refine HC.out.mono ?_
  clear HC
  rintro e v2 ⟨rfl, hb2⟩
  have hb2' := HB1.out.trans (hb2.mono (show S ≤ W1.heap.size by omega))
  have hk2 := HB0.out.below hb2 (by omega)
  have hz2 := hb2'.size
  have hlt2 : S < v2.heap.size := hk2.lt
  have c0 := hk2.cell 0
  have c1 := hk2.cell 1
  have HB2 := Lib.hid hb2'
  have HK2 := Lib.hid hk2
  rw [← HS.out] at hz2 ⊢
  clear hb2 hb2' hk2 HB0 HB1 HW1 hz1
  go_wp2_with (at_make; go_loud (
     refine wpList_make1 rfl _ _ _ rfl (S + 1) 32 24 (fun v : Value => v) (.slice none 0 0) Tryd.underlying31 (by kernel_rfl) rfl _ .i64 .i64 N rfl rfl (by omega) (by unfold maxLen; omega) (by omega) ?_
     intro v3 hown3 hgrow3))
  obtain ⟨G, hG⟩ : ∃ G, G = v2.heap.size := ⟨_, rfl⟩
  rw [← hG] at hown3 ⊢
  have hT3 : Tn v3 (S + 1) G N N 0 (fun _ => 0) (fun _ _ => 0) := Tn.made hown3
  have hb3 := HB2.out.grown hgrow3 (by omega) (fun g hg => by cases hg)
  have hk3 := HK2.out.grown hgrow3 (by simp)
  have hSG : S < G := by omega
  have HB3 := Lib.hid hb3
  have HK3 := Lib.hid hk3
  have HT3 := Lib.hid hT3
  clear hb3 hk3 hT3 hown3 hgrow3 hG c0 c1 HB2 HK2 hlt2 hz2
  go_loopw [25] (fun s25 wr => ∃ (i : Nat) (q : Nat → Nat), i ≤ N ∧ s25 = .int .i64 i ∧ Below S w wr ∧ Blk wr S 24 #[.int .i64 N, .slice A n c] ∧ Tn wr (S + 1) G N N i q (fun _ _ => 0)) (fun s25 _ => N - (intOf s25).toNat)
  case atStart => exact ⟨0, _, Nat.zero_le _, rfl, HB3.out, HK3.out, HT3.out⟩
  case round =>
    clear HB3 HK3 HT3
    rename World => wr
    obtain ⟨i, q, hi, rfl, hb, hk, ht⟩ := hrel
    have hz := hb.size
    rw [← HS.out] at hz
    have hlt2 := hk.lt
    have HB := Lib.hid hb
    have HK := Lib.hid hk
    have HTN := Lib.hid ht
    by_cases hlt : i < N
    · clear hb hk ht
      go_wp2_with (at_make; go_loud (
        refine wpList_make1 rfl _ _ _ rfl (S + 1) 2 8 (fun x : Int => .int .i64 x) 0 Tryd.underlying32 (by kernel_rfl) rfl _ .i64 .i64 N rfl rfl (by omega) (by unfold maxLen; omega) (by omega) ?_
        intro v5 hown5 hgrow5
        have hT5 := HTN.out.kept hgrow5
        obtain ⟨⟨z0, y0⟩, f0⟩ := hT5.slot hlt))
      have hB5 := HB.out.grown hgrow5 (by omega) (fun g hg => by cases hg)
      have hK5 := HK.out.grown hgrow5 (by simp)
      obtain ⟨R, hR⟩ : ∃ R, R = wr.heap.size := ⟨_, rfl⟩
      have hqR : ∀ j, j < i → q j ≠ R := fun j hj => by have := (HTN.out.qlt hj).2; omega
      rw [← hR] at hown5 ⊢
      have hT6 := hT5.put hlt hown5 (by
        apply List.ext_getElem
        · simp
        · intro b h1 h2
          rw [mapR_get, List.getElem_replicate]) hqR
      have HT6 := Lib.hid hT6
      have HB5 := Lib.hid hB5
      have HK5 := Lib.hid hK5
      clear hT6 hB5 hK5 hqR hT5 hown5 hgrow5 hR HB HTN HK
      go_wp2_with fail
      go_roundw
      case rel => exact ⟨i + 1, _, by omega, by go_num, HB5.out.setCell (p := ⟨G, i, none⟩) (show S ≤ G by omega) _, HK5.out.far (p := ⟨G, i, none⟩) (show S ≠ G by omega) _, HT6.out⟩
      case measure => (simp [intOf]; omega)
    · obtain rfl : N = i := by omega
      have c0 := hk.cell 0
      have c1 := hk.cell 1
      have HT0 : Hid (Tn wr (S + 1) G N N N q (wL (l.take 0))) := Lib.hid ht
      clear hb hk ht hlt
      go_wp2_with fail
      go_loopw [37] (fun s37 w2 => ∃ k : Nat, k ≤ n ∧ s37 = .int .i64 k ∧ Below S w w2 ∧ Blk w2 S 24 #[.int .i64 N, .slice A n c] ∧ Tn w2 (S + 1) G N N N q (wL (l.take k))) (fun s37 _ => n - (intOf s37).toNat)
      case atStart => exact ⟨0, Nat.zero_le _, rfl, HB.out, HK.out, HT0.out⟩
      case round =>
        clear HB HK HT0 HTN c0 c1
        rename World => w2
        obtain ⟨k, hkn, rfl, hb, hk, ht⟩ := hrel
        have hz2 := hb.size
        rw [← HS.out] at hz2
        have HB := Lib.hid hb
        have HK := Lib.hid hk
        have HTN := Lib.hid ht
        by_cases hlt : k < n
        · have hkl : k < l.length := by rw [HL.out]; exact hlt
          have hels := HR.out.below hb
          obtain ⟨b0, off, rfl, hbb, g0, g1, g2⟩ := hels.at3 hkl
          have hge := HG.out.ed l[k] (List.getElem_mem hkl)
          have htk := wL_take hkl
          obtain ⟨e, he⟩ : ∃ e, e = l[k] := ⟨_, rfl⟩
          rw [← he] at g0 g1 g2 hge htk
          obtain ⟨a, ha⟩ := Int.eq_ofNat_of_zero_le hge.a0
          obtain ⟨b, hb'⟩ := Int.eq_ofNat_of_zero_le hge.b0
          have haN : a < N := by have := hge.a1; omega
          have hbN : b < N := by have := hge.b1; omega
          have hab : a ≠ b := by have := hge.ne; omega
          rw [ha] at g0
          rw [hb'] at g1
          obtain ⟨ew, hew⟩ : ∃ ew, ew = e.w := ⟨_, rfl⟩
          rw [← hew] at g2
          have hE0 := Blk.new w2 34 #[.int .i64 (a : Int), .int .i64 (b : Int), .int .i64 ew]
          have e0 := hE0.cell 0
          have e1 := hE0.cell 1
          obtain ⟨T, hTs⟩ : ∃ T, T = w2.heap.size := ⟨_, rfl⟩
          obtain ⟨V1, hV1⟩ : ∃ V1, V1 = w2.alloc (.cells #[.int .i64 (a : Int), .int .i64 (b : Int), .int .i64 ew] 34) := ⟨_, rfl⟩
          have hT1 := ht.below (show Below w2.heap.size w2 V1 by rw [hV1]; exact (Below.refl _ w2).alloc (Nat.le_refl _) _)
          obtain ⟨d1, d2, fz⟩ := hT1.at_ (i := a) (j := b) haN (Nat.le_refl _) hbN
          obtain ⟨x1, hx1⟩ : ∃ x1, x1 = wL (l.take k) a b := ⟨_, rfl⟩
          have hx1b : 0 ≤ x1 ∧ x1 ≤ 90 := by
            rw [hx1]
            refine ⟨wL_nn _ _ _, Int.le_trans (wL_len _ _ _) ?_⟩
            have := List.length_take_le k l
            omega
          rw [← hx1] at d2
          have hwr1 : IntKind.i64.wrap (x1 + 1) = x1 + 1 := wrp (by omega)
          have HV1 := Lib.hid hV1
          rw [← hV1] at e0 e1
          rw [← hTs] at e0 e1
          have hqa := ht.qlt haN
          have hqb := ht.qlt hbN
          obtain ⟨qa, hqa'⟩ : ∃ qa, qa = q a := ⟨_, rfl⟩
          obtain ⟨qb, hqb'⟩ : ∃ qb, qb = q b := ⟨_, rfl⟩
          have HQA := Lib.hid hqa'
          have hput := hT1.cellPut (i := a) (j := b) (M' := fun x y => if x = a ∧ y = b then x1 + 1 else wL (l.take k) x y) haN hbN (x1 + 1) (fun _ _ _ _ => rfl)
          have hbV : Below S w V1 := by rw [hV1]; exact hb.alloc hz2 _
          have hkV : Blk V1 S 24 #[.int .i64 N, .slice (some ⟨b0, off, none⟩) n c] := by rw [hV1]; exact hk.alloc _
          have hkE : Blk V1 T 34 #[.int .i64 (a : Int), .int .i64 (b : Int), .int .i64 ew] := by rw [hV1, hTs]; exact hE0
          rw [← hqa'] at d1 d2 fz hput
          have hST : S < T := by have := hk.lt; omega
          have hqT : qa ≠ T := by omega
          have hqT2 : qb ≠ T := by omega
          have hqS : S < qa := by omega
          have hqS2 : S < qb := by omega
          have HPUT := Lib.hid hput
          have HBV := Lib.hid (hbV.setCell (p := ⟨qa, b, none⟩) (show S ≤ qa by omega) (.int .i64 (x1 + 1))).drew
          have HKV := Lib.hid (hkV.far (p := ⟨qa, b, none⟩) (show S ≠ qa by omega) (.int .i64 (x1 + 1)))
          have HKE := Lib.hid (hkE.far (p := ⟨qa, b, none⟩) (show T ≠ qa by omega) (.int .i64 (x1 + 1)))
          have HE := Lib.hid he
          have HA' := Lib.hid ha
          have HB'' := Lib.hid hb'
          have HQB := Lib.hid hqb'
          have HTK := Lib.hid htk
          have HX1 := Lib.hid hx1
          have hx1' : 0 ≤ x1 ∧ x1 ≤ 90 := hx1b
          clear hb hk hels he hge htk ha hb' hew hE0 hT1 hx1 hqa' hqb' hqa hqb hput hbV hkV hkE hx1b hx1' hV1
          go_wp2_with fail
          rw [← HV1.out, ← hTs]
          clear hTs
          refine region_plain 11 12 (fun w' => w' = V1.drew) (by kernel_rfl) rfl ?_
          refine anyC_reads (by kernel_rfl) [0, 1, 2, 3, 4, 5, 6, 7, 8, 9, 10] ?opa ?oha 1 _ _ _ (by kernel_rfl) ?oka
          case oha => (simp only [List.filterMap_cons, List.filterMap_nil, List.getElem?_toArray, List.getElem?_cons_zero, List.getElem?_cons_succ]; try rfl)
          repeat (
            refine readC_step (v := ?_) rfl (fun w' hw' => ?_) ?_
            rotate_left
            focus (subst hw'; go_simp; try with_reducible rfl)
            go_simp)
          refine readC_nil ?_
          refine anyC_one (i := 11) (by kernel_rfl) rfl rfl (.inr rfl) ?_
          go_simp
          refine anyC_end (by kernel_rfl) (.inl (by kernel_rfl)) ?_
          clear d1 d2 fz e0 e1
          go_wp2_with fail
          obtain ⟨V2, hV2⟩ : ∃ V2, V2 = (V1.setCell ⟨qa, b, none⟩ (.int .i64 (x1 + 1))).drew := ⟨_, rfl⟩
          have ht2 : Tn V2 (S + 1) G N N N q (fun x y => if x = a ∧ y = b then x1 + 1 else wL (l.take k) x y) := by rw [hV2]; exact HPUT.out.drew
          have hk2 : Blk V2 S 24 #[.int .i64 N, .slice (some ⟨b0, off, none⟩) n c] := by rw [hV2]; exact HKV.out.drew
          have hkE2 : Blk V2 T 34 #[.int .i64 (a : Int), .int .i64 (b : Int), .int .i64 ew] := by rw [hV2]; exact HKE.out.drew
          have hb2 : Below S w V2 := by rw [hV2]; exact HBV.out
          rw [← hV2]
          clear hV2
          obtain ⟨x2, hx2⟩ : ∃ x2, x2 = wL (l.take k) b a := ⟨_, rfl⟩
          have hx2b : 0 ≤ x2 ∧ x2 ≤ 90 := by
            rw [hx2]
            refine ⟨wL_nn _ _ _, Int.le_trans (wL_len _ _ _) ?_⟩
            have := List.length_take_le k l
            omega
          have hwr2 : IntKind.i64.wrap (x2 + 1) = x2 + 1 := wrp (by omega)
          obtain ⟨d1, d2, fz⟩ := ht2.at_ (i := b) (j := a) hbN (Nat.le_refl _) haN
          rw [if_neg (by omega), ← hx2, ← HQB.out] at d2
          rw [← HQB.out] at d1 fz
          have hput2 := ht2.cellPut (i := b) (j := a) (M' := wL (l.take (k + 1))) hbN haN (x2 + 1) (fun x y _ _ => by
            rw [HTK.out]
            unfold wE
            rw [HA'.out, HB''.out]
            by_cases h1 : x = b ∧ y = a
            · obtain ⟨rfl, rfl⟩ := h1
              rw [if_pos ⟨rfl, rfl⟩, hx2, if_neg (by omega), if_pos ⟨rfl, rfl⟩]
              omega
            · rw [if_neg h1]
              by_cases h2 : x = a ∧ y = b
              · obtain ⟨rfl, rfl⟩ := h2
                rw [if_pos ⟨rfl, rfl⟩, HX1.out, if_pos ⟨rfl, rfl⟩, if_neg (by omega)]
                omega
              · rw [if_neg h2, if_neg (by omega), if_neg (by omega)]
                omega)
          rw [← HQB.out] at hput2
          have e0 := hkE2.cell 0
          have e1 := hkE2.cell 1
          have HB2 := Lib.hid (hb2.setCell (p := ⟨qb, a, none⟩) (show S ≤ qb by omega) (.int .i64 (x2 + 1))).drew
          have HK2 := Lib.hid (hk2.far (p := ⟨qb, a, none⟩) (show S ≠ qb by omega) (.int .i64 (x2 + 1))).drew
          have HPUT2 := Lib.hid hput2
          clear ht2 hk2 hkE2 hb2 hput2 hx2 hx2b HPUT HBV HKV HKE
          refine region_plain 11 12 (fun w' => w' = V2.drew) (by kernel_rfl) rfl ?_
          refine anyC_reads (by kernel_rfl) [0, 1, 2, 3, 4, 5, 6, 7, 8, 9, 10] ?opb ?ohb 1 _ _ _ (by kernel_rfl) ?okb
          case ohb => (simp only [List.filterMap_cons, List.filterMap_nil, List.getElem?_toArray, List.getElem?_cons_zero, List.getElem?_cons_succ]; try rfl)
          repeat (
            refine readC_step (v := ?_) rfl (fun w' hw' => ?_) ?_
            rotate_left
            focus (subst hw'; go_simp; try with_reducible rfl)
            go_simp)
          refine readC_nil ?_
          refine anyC_one (i := 11) (by kernel_rfl) rfl rfl (.inr rfl) ?_
          go_simp
          refine anyC_end (by kernel_rfl) (.inl (by kernel_rfl)) ?_
          clear d1 d2 fz e0 e1
          go_wp2_with fail
          go_roundw
          case rel => exact ⟨k + 1, by omega, by go_num, HB2.out, HK2.out, HPUT2.out.drew⟩
          case measure => (simp [intOf]; omega)
        · obtain rfl : n = k := by omega
          have hall : l.take n = l := List.take_of_length_le (by rw [HL.out]; exact Nat.le_refl _)
          rw [hall] at ht
          have c0 := hk.cell 0
          have c1 := hk.cell 1
          have HTN2 := Lib.hid ht
          have HNE := Lib.hid (graph_Near N A n c l w2 HL.out HG.out ((HR.out.below hb).more hz2))
          clear hall hb hk ht HTN hlt
          go_wp2_with fail
          refine HNE.out.mono ?_
          clear HNE
          rintro e v5 ⟨A5, rfl, hb5, ho5⟩
          have hz5 := hb5.size
          have HB5 := Lib.hid (HB.out.trans (hb5.mono hz2))
          have HT5 := Lib.hid (HTN2.out.below hb5)
          have HO5 := Lib.hid ho5
          have hS5 : S ≤ v5.heap.size := by omega
          have HTA := Lib.hid (HT.out.below HB5.out h0w)
          have HST := Lib.hid (LeI.start p (N := N) (by omega))
          clear hb5 ho5 HB HK HTN2 c0 c1
          go_wp2_with fail
          go_loopw [12, 11] (fun s12 s11 wr => ∃ (k : Nat) (left : BitVec 32), k ≤ N ∧ s12 = .int .u32 (wN left) ∧ s11 = .int .i64 (rP (wL l) p N k) ∧ LeI p N k left ∧ Below v5.heap.size v5 wr) (fun s12 _ _ => (wordV s12).toNat)
          case atStart => exact ⟨0, _, Nat.zero_le _, rfl, rfl, HST.out, Below.refl _ _⟩
          case round =>
            clear HST
            rename World => wr
            obtain ⟨k, left, hk, rfl, rfl, hle, hb⟩ := hrel
            have hz := hb.size
            have HLE := Lib.hid hle
            have HB := Lib.hid hb
            by_cases hl0 : left = w0
            · subst hl0
              have hw0 : (w0 != w0) = false := by simp
              have HD := Lib.hid (HLE.out.done (w := wL l) hk)
              clear hle hb
              go_wp2_with fail
              refine bodyPost_ret (v := .tuple #[.int .i64 (rP (wL l) p N k), .int .i64 0]) (by simp [results, Tryd.results4, go_sem]) rfl ?_
              exact ⟨by rw [HD.out], HB5.out.trans (HB.out.mono hS5)⟩
            · have hyn : (left != w0) = true := by simpa using hl0
              have HLOW := Lib.hid (low_bit1 hl0)
              have HBIT : Hid (∀ j, left.getLsbD j = true → j < N) := Lib.hid (fun j hj => ((HLE.out.bit j).1 hj).1)
              have htz := HBIT.out _ (tz_bit hl0)
              have HSP := Lib.hid (graph_Spread A5 N N (nearL N l) (wAnd left (wSub w0 left)) left wr (nearL_length _ _) (by omega) ((HO5.out.els.below HB.out).more hz) (HTA.out.below HB.out (by omega)) (by omega)
                (fun j hj => by rw [HLOW.out, b_one] at hj; simp at hj; omega) HBIT.out)
              have HNX := Lib.hid (fun (y : BitVec 32) hy => HLE.out.next HG.out HPP.out hl0 (y := y) hy)
              obtain ⟨u, hu⟩ : ∃ u, u = rP (wL l) p N k := ⟨_, rfl⟩
              rw [← hu] at HNX ⊢
              clear hle hb hl0 htz hu
              go_wp2_with fail
              refine HSP.out.mono ?_
              clear HSP
              rintro e v6 ⟨y, rfl, hb6, hy⟩
              obtain ⟨n1, n2, n3, n4, X, r, hXr, hpok, hin⟩ := HNX.out y (by rw [HLOW.out] at hy; exact hy)
              have hb56 := HB.out.trans (hb6.mono hz)
              have hz6 := hb56.size
              have hta6 := HTA.out.below hb56 (by omega)
              have hV7 : Below v6.heap.size v6 (v6.alloc (.cells #[.int .u32 (wN y)] 37)) := (Below.refl _ _).alloc (Nat.le_refl _) _
              have HCB := Lib.hid (Collect_bits v6.heap.size y (v6.alloc (.cells #[.int .u32 (wN y)] 37)) (Blk.new _ _ _) (hta6.below hV7 hta6.1) hta6.1)
              have hb57 := hb56.trans (hV7.mono hz6)
              have HB57 := Lib.hid hb57
              have N1 := Lib.hid n1
              have N2 := Lib.hid n2
              have N3 := Lib.hid n3
              have N4 := Lib.hid n4
              have HXR := Lib.hid hXr
              have HPOK := Lib.hid hpok
              have HIN := Lib.hid hin
              have hsm := rP_small HG.out p (tz left + 1)
              obtain ⟨Z, hZ⟩ : ∃ Z, Z = rP (wL l) p N (tz left + 1) := ⟨_, rfl⟩
              rw [← hZ] at hsm
              have hwr : IntKind.i64.wrap (u * D (wL l) (bitsL y)) = Z := by rw [← n3, ← hZ]; exact wrp (by omega)
              rw [hXr] at hwr
              obtain ⟨dv, hdv⟩ : ∃ dv, dv = D (wL l) (X ++ [r]) := ⟨_, rfl⟩
              rw [← hdv] at hwr
              have HDV := Lib.hid hdv
              have HZ := Lib.hid hZ
              clear hb6 hy n1 n2 n3 n4 hXr hpok hin hb56 hta6 hV7 hb57 hsm hZ hdv HNX
              go_wp2_with fail
              refine (graph_Each y _).mono ?_
              rintro e v7 ⟨rfl, rfl⟩
              go_wp2_with fail
              refine HCB.out.mono ?_
              clear HCB
              rintro e v8 ⟨A8, n8, cap8, rfl, hn8, hh8, ho8⟩
              have hz7 := HB57.out.size
              have hb8 := HB57.out.trans (hh8.to (B := v5.heap.size) hz7 (fun k hk => by rw [List.mem_singleton.1 hk]; exact hz6))
              have hz8 := hb8.size
              have hbi : bitsI y = (X ++ [r]).map fun j : Nat => (j : Int) := by unfold bitsI; rw [HXR.out]
              have hn8' : n8 = X.length + 1 := by rw [hn8, hbi, List.length_map, List.length_append, List.length_singleton]
              rw [hbi] at ho8
              obtain ⟨g8, rfl, _, _, _, _⟩ := ho8.cell1 (f := fun x : Int => .int .i64 x) (k := 0) (by simp)
              have HTR := Lib.hid (span_trees (wL l) X r N G (S + 1) _ g8 cap8 q v8 HPOK.out HIN.out hN10 (HT5.out.below hb8) ho8)
              have HB8 := Lib.hid hb8
              rw [hn8']
              rw [← HDV.out] at HTR
              clear hn8 hh8 ho8 hb8 hbi hn8' HB57
              go_wp2_with fail
              refine HTR.out.mono ?_
              clear HTR
              rintro e v9 ⟨rfl, hb9⟩
              have HB9 := Lib.hid (HB8.out.trans (hb9.mono hz8))
              clear hb9
              go_wp2_with fail
              go_roundw
              case rel => exact ⟨tz left + 1, wBut left y, N2.out, rfl, by rw [HZ.out], N1.out, HB9.out⟩
              case measure => rw [wordV_of, wordV_of]; exact N4.out
end Go.Proofs.YtbbdiondhnmnaaaDoor
