/- The edges that are taken, one by one: the reference. Conditions: the graph is one. -/
import Derived.Test.YtodbhgbgeiailaaDoorBondR
import Derived.Test.YtodbhgbgeiailaaDoorIntsOf
namespace Go.Proofs.YtodbhgbgeiailaaDoor
open Go.RowKit Go.Shelf
attribute [local go_sem ↓] w_and w_or w_xor w_andNot w_and1 w_and255 w_xor1 w_or0 w_shl w_shl1 w_shr w_sub w_add w_sub1 w_add1
attribute [local go_sem] w_eq0 w_ne0 w_eq1 w_eq w_ne

theorem free_0 {N : Nat} : freeW N w0 = maskW N := by
  apply BitVec.eq_of_getLsbD_eq
  intro q hq
  rw [b_but, b_0]
  simp
theorem bondL_lt : ∀ (es : List Ed) (k : Nat) (p : Int → Bool), (bondL es k p).length ≤ es.length
  | [], _, _ => Nat.le_refl _
  | e :: es, k, p => by
    have h1 := bondL_lt es (k + 1) p
    have h2 := bondL_lt es (k + 1) (m1 (m1 p e.a) e.b)
    unfold bondL
    rw [List.length_cons]
    split
    · rw [List.length_cons]; omega
    · omega
theorem word_zero {N : Nat} : ∀ j, w0.getLsbD j = true → j < N := fun j h => by rw [b_0] at h; cases h
theorem own_heldB {α : Type} {ex : List Nat} {w w' : World} {B c cap : Nat} {e : TypeId} {f : α → List Value} {A : Option Addr} {l : List α} (h : Own w B e c f A cap l) (hh : Held ex w w') (hx : ∀ k ∈ ex, k < B) : Own w' B e c f A cap l := by
  refine ⟨h.1, h.2.1, ?_⟩
  rcases h.2.2 with hn | ⟨g', cp, cur, hv, hb, hg, r⟩
  · exact .inl hn
  · refine .inr ⟨g', cp, cur, hv, hb, (hh.block g' (lt_of_block hg) (fun hm => ?_)).trans hg, r⟩
    have := hx g' hm
    omega
set_option maxRecDepth 100000 in
set_option maxHeartbeats 1000000 in
theorem ref_Bond (N n c : Nat) (A : Option Addr) (es : List Ed) (w : World) (hl : es.length = n) (hg : GoodG N es) (hr : Els w w.heap.size 3 Ed.cells A es) :
    Calls Tryd.prog 10 #[.agg #[.int .i64 N, .slice A n c]] w fun e w' => ∃ A' cap, e = .returned (.slice A' (bondL es 0 (fun j : Int => bitB (maskW N) j)).length cap) ∧ Below w.heap.size w w' ∧ Own w' w.heap.size 3 1 icell A' cap (intsOf (bondL es 0 (fun j : Int => bitB (maskW N) j))) := by
  have hn45 : n ≤ 45 := by rw [← hl]; exact hg.m45
  have hN10 := hg.n10
  obtain ⟨S, hS⟩ : ∃ S, S = w.heap.size := ⟨_, rfl⟩
  have hmk : ∀ W : World, (Instr.makeMap 46 none).run Tryd.prog W = .ok (.map (some W.heap.size)) (W.alloc (.map #[] 0)) := fun W => by rw [run_makeMap]
  obtain ⟨W1, hW1⟩ : ∃ W1, W1 = (w.alloc (.cells #[.int .i64 N, .slice A n c] 24)).alloc (.map #[] 0) := ⟨_, rfl⟩
  have b0 := (Blk.new w 24 #[.int .i64 N, .slice A n c]).alloc (.map #[] 0)
  have m1_ := MapB.made (kv := kv32) (w.alloc (.cells #[.int .i64 N, .slice A n c] 24))
  rw [size_alloc'] at m1_
  rw [← hW1, ← hS] at b0 m1_
  have hz1 : W1.heap.size = S + 1 + 1 := by rw [hW1, hS]; simp only [size_alloc']
  have hb1 : Below S w W1 := by rw [hW1, hS]; exact ((Below.refl _ w).alloc (Nat.le_refl _) _).alloc (by rw [size_alloc']; omega) _
  rw [← hS] at hr
  have HR := Lib.hid hr
  have HB0 := Lib.hid b0
  have HM1 := Lib.hid m1_
  have HB1 := Lib.hid hb1
  have HW1 := Lib.hid hW1
  have HS := Lib.hid hS
  have HL := Lib.hid hl
  have c0 := b0.cell 0
  have c1 := b0.cell 1
  rw [hW1, hS] at c0 c1
  have c1' := (Blk.new w 24 #[.int .i64 N, .slice A n c]).cell 1
  have hzz : W1.heap.size = S + 2 := hz1
  obtain ⟨out, hout⟩ : ∃ out, out = bondL es 0 (fun j : Int => bitB (maskW N) j) := ⟨_, rfl⟩
  have hol : out.length ≤ 45 := by rw [hout]; exact Nat.le_trans (bondL_lt _ _ _) hg.m45
  rw [← hout]
  have HOUT := Lib.hid hout
  clear hr b0 m1_ hb1 hW1 hS hl hz1 hout
  go_enter Tryd.func10, Tryd.ntmps10
  go_wp2_with fail
  rw [← HW1.out, ← HS.out]
  clear c0 c1 c1' hmk
  go_loopw [13, 4, 5] (fun s13 s4 s5 wr => ∃ (k : Nat) (x : BitVec 32) (acc : List Nat) (A5 : Option Addr) (cap5 : Nat) (L : List (Int × Value)), k ≤ n ∧ s13 = .int .i64 k ∧ s4 = .int .u32 (wN x) ∧ s5 = .slice A5 acc.length cap5 ∧ Below S w wr ∧ Blk wr S 24 #[.int .i64 N, .slice A n c] ∧ MapB wr (S + 1) kv32 L ∧ MemoK (bondK N es) L ∧
    Own wr (S + 2) 3 1 icell A5 cap5 (intsOf acc) ∧ (∀ j, x.getLsbD j = true → j < N) ∧ out = acc ++ bondL (es.drop k) k (fun j : Int => bitB (freeW N x) j)) (fun s13 _ _ _ => n - (intOf s13).toNat)
  case atStart =>
    refine ⟨0, w0, [], none, 0, [], Nat.zero_le _, rfl, rfl, rfl, HB1.out, HB0.out, HM1.out, (fun u k v _ h => by cases h), Own.nil _ _ _ (fun _ => rfl), word_zero, ?_⟩
    rw [free_0]
    exact HOUT.out
  case round =>
    clear HB0 HM1 HB1 HW1 HOUT
    rename World => wr
    obtain ⟨k, x, acc, A5, cap5, L, hk, rfl, rfl, rfl, hb, bS, hm, hme, how, hx, hbl⟩ := hrel
    by_cases hlt : k < n
    · have hkl : k < es.length := by rw [HL.out]; exact hlt
      have hr2 := HR.out.below hb
      obtain ⟨nb, no, hA, hnb, g0, g1, g2⟩ := hr2.at3 hkl
      obtain ⟨⟨ea, eb, ew⟩, hee⟩ : ∃ e, e = es[k] := ⟨_, rfl⟩
      have hge := hg.ed _ (List.getElem_mem hkl)
      rw [← hee] at g0 g1 g2 hge
      obtain ⟨a0, a1, b0, b1', hab, _, _⟩ := hge
      simp only at a0 a1 b0 b1' hab g0 g1 g2
      obtain ⟨a, rfl⟩ := Int.eq_ofNat_of_zero_le a0
      obtain ⟨b, rfl⟩ := Int.eq_ofNat_of_zero_le b0
      have haN : a < N := by omega
      have hbN : b < N := by omega
      have habn : a ≠ b := by omega
      have hdrop : es.drop k = ⟨a, b, ew⟩ :: es.drop (k + 1) := by rw [List.drop_eq_getElem_cons hkl, ← hee]
      obtain ⟨W3, hW3⟩ : ∃ W3, W3 = wr.alloc (.cells #[.int .i64 a, .int .i64 b, .int .i64 ew] 52) := ⟨_, rfl⟩
      have b3 := Blk.new wr 52 #[.int .i64 a, .int .i64 b, .int .i64 ew]
      obtain ⟨T, hT⟩ : ∃ T, T = wr.heap.size := ⟨_, rfl⟩
      rw [← hW3, ← hT] at b3
      have x0 := b3.cell 0
      have x1 := b3.cell 1
      have bS3 : Blk W3 S 24 #[.int .i64 N, .slice A n c] := by rw [hW3]; exact bS.alloc _
      have hm3 : MapB W3 (S + 1) kv32 L := by rw [hW3]; exact hm.alloc _
      have how3 : Own W3 (S + 2) 3 1 icell A5 cap5 (intsOf acc) := by rw [hW3]; exact how.alloc _
      have hmS := hm.lt
      have hb3 : Below S w W3 := by rw [hW3]; exact hb.alloc (by omega) _
      have y0 := bS3.cell 0
      have y1 := bS3.cell 1
      have z1 := bS.cell 1
      have hwk : IntKind.i64.wrap ((k : Int) + 1) = (k : Int) + 1 := IntWalk.i64_in _ (by omega)
      have HW3 := Lib.hid hW3
      have HT := Lib.hid hT
      have HBS3 := Lib.hid bS3
      have HM3 := Lib.hid hm3
      have HOW3 := Lib.hid how3
      have HB3 := Lib.hid hb3
      have HME := Lib.hid hme
      have HX := Lib.hid hx
      have HBL := Lib.hid hbl
      have HDROP := Lib.hid hdrop
      obtain ⟨q, hq⟩ : ∃ q, q = acc.length := ⟨_, rfl⟩
      rw [← hq]
      have HQ := Lib.hid hq
      have hq45 : q ≤ 45 := by rw [hbl, List.length_append] at hol; omega
      subst hA
      clear hb bS hm hme how hx hbl hdrop hee hr2 b3 bS3 hm3 how3 hb3 hW3 hT hq
      go_wp2_with fail
      rw [← HW3.out, ← HT.out]
      refine (Bit_any x a W3).mono ?_
      rintro e W ⟨rfl, rfl⟩
      cases hba : bitB x a with
      | true =>
        have HSK : Hid (out = acc ++ bondL (es.drop (k + 1)) (k + 1) (fun j : Int => bitB (freeW N x) j)) := Lib.hid (by
          rw [HBL.out, HDROP.out]
          congr 1
          rw [bondL.eq_def (⟨a, b, ew⟩ :: _)]
          simp only
          rw [if_neg]
          rintro ⟨⟨q1, q2⟩, _⟩
          rw [free_bit hN10 x (by omega) (by omega)] at q1 q2
          first | (rw [hba] at q1; simp at q1; done) | (rw [hbb] at q2; simp at q2; done))
        clear HBL hba
        go_wp2_with fail
        go_roundw
        case rel => exact ⟨k + 1, x, acc, A5, cap5, L, by omega, by simp, rfl, by rw [HQ.out], HB3.out, HBS3.out, HM3.out, HME.out, HOW3.out, HX.out, HSK.out⟩
        case measure => first | (simp [intOf]; done) | (simp [intOf]; omega)
      | false =>
        go_wp2_with fail
        refine (Bit_any x b W3).mono ?_
        rintro e W ⟨rfl, rfl⟩
        cases hbb : bitB x b with
        | true =>
          have HSK : Hid (out = acc ++ bondL (es.drop (k + 1)) (k + 1) (fun j : Int => bitB (freeW N x) j)) := Lib.hid (by
            rw [HBL.out, HDROP.out]
            congr 1
            rw [bondL.eq_def (⟨a, b, ew⟩ :: _)]
            simp only
            rw [if_neg]
            rintro ⟨⟨q1, q2⟩, _⟩
            rw [free_bit hN10 x (by omega) (by omega)] at q1 q2
            first | (rw [hba] at q1; simp at q1; done) | (rw [hbb] at q2; simp at q2; done))
          clear HBL hba hbb
          go_wp2_with fail
          go_roundw
          case rel => exact ⟨k + 1, x, acc, A5, cap5, L, by omega, by simp, rfl, by rw [HQ.out], HB3.out, HBS3.out, HM3.out, HME.out, HOW3.out, HX.out, HSK.out⟩
          case measure => first | (simp [intOf]; done) | (simp [intOf]; omega)
        | false =>
          have hxa : x.getLsbD a = false := by rw [← bitB_nat]; exact hba
          have hxb : x.getLsbD b = false := by rw [← bitB_nat]; exact hbb
          obtain ⟨z, hz⟩ : ∃ z, z = wAdd (wAdd x (wShl w1 a)) (wShl w1 b) := ⟨_, rfl⟩
          have hfree := free_add hN10 haN hbN habn hxa hxb
          rw [← hz] at hfree
          have hzN : ∀ j, z.getLsbD j = true → j < N := fun j hj => by
            have h1 : (wAdd x (wShl w1 a)).getLsbD b = false := by
              rw [b_add hxa, hxb, b_one]
              simp
              omega
            rw [hz, b_add h1, b_add hxa, b_one, b_one] at hj
            simp at hj
            rcases hj with (h | h) | h
            · exact HX.out j h
            · omega
            · omega
          have hcall : ∀ (y : BitVec 32) (j d : Nat) (V : World) (L : List (Int × Value)), j + d = n → (∀ i, y.getLsbD i = true → i < N) → Held [S + 1] W3 V → MapB V (S + 1) kv32 L → MemoK (bondK N es) L → Calls Tryd.prog 22 #[.agg #[.int .i64 N, .slice (some ⟨nb, no, none⟩) n c], .int .i64 j, .int .u32 (wN y), .map (some (S + 1))] V fun e w' => e = .returned (.int .i64 (bondK N es y.toNat j)) ∧ Held [S + 1] V w' ∧ ∃ L', MapB w' (S + 1) kv32 L' ∧ MemoK (bondK N es) L' := by
            intro y j d V L hjd hy hV hm hme
            have hbV : Below S w V := HB3.out.trans (hV.to (by have := HB3.out.size; have := HBS3.out.lt; omega) (by simp))
            exact ref_bond N n (S + 1) S c _ es HL.out hg (by omega) d j y V L hjd hy (HR.out.below hbV) (by have := HBS3.out.lt; have := hV.size; omega) hm hme
          have HC := Lib.hid hcall
          have HZ := Lib.hid hz
          have HFREE := Lib.hid hfree
          have HZN := Lib.hid hzN
          have HBA := Lib.hid hba
          have HBB := Lib.hid hbb
          clear hba hbb hz hfree hzN hcall
          go_wp2_with fail
          refine region_plain 99 13 (fun V => V.cell? ⟨S, 0, none⟩ = some (.int .i64 N) ∧ V.cell? ⟨S, 1, none⟩ = some (.slice (some ⟨nb, no, none⟩) n c)) (by kernel_rfl) rfl ?_
          have hC3 : W3.drew.cell? ⟨S, 0, none⟩ = some (.int .i64 N) ∧ W3.drew.cell? ⟨S, 1, none⟩ = some (.slice (some ⟨nb, no, none⟩) n c) := ⟨y0, y1⟩
          refine anyC_reads (by kernel_rfl) [0, 1, 2, 3, 4, 7, 8, 9, 10] ?op1 ?oh1 4 _ _ _ (by kernel_rfl) ?ok1
          case oh1 => (simp only [List.filterMap_cons, List.filterMap_nil, List.getElem?_toArray, List.getElem?_cons_zero, List.getElem?_cons_succ]; try rfl)
          repeat (
            refine readC_step (v := ?_) rfl (fun w' hw' => ?_) ?_
            rotate_left
            focus (obtain ⟨q0, q1⟩ := hw'; go_simp; try with_reducible rfl)
            go_simp)
          refine readC_nil ?_
          refine anyC_one (i := 5) (by kernel_rfl) rfl rfl (.inr hC3) ?_
          go_simp
          rw [← HZ.out]
          refine ((HC.out z (k + 1) (n - (k + 1)) W3.drew L (by omega) HZN.out (Held.refl [S + 1] W3).drew1 HM3.out.drew HME.out)).mono ?_
          rintro e W5 ⟨rfl, hH5, L5, hm5, hme5⟩
          have hH35 : Held [S + 1] W3 W5 := (Held.refl [S + 1] W3).drew1.then hH5 (by simp)
          have bS5 := Blk.held hH35 HBS3.out (by simp)
          obtain ⟨m1', hm1'⟩ : ∃ m, m = bondK N es z.toNat (k + 1) := ⟨_, rfl⟩
          rw [← hm1']
          have hb45 : m1' ≤ 45 := by
            rw [hm1']
            have h1 := bond_len (es.drop (k + 1)) (fun j : Int => bitB (freeW N (nw z.toNat)) j)
            rw [List.length_drop] at h1
            exact Nat.le_trans h1 (by have := HL.out; omega)
          have hw1 : IntKind.i64.wrap (1 + (m1' : Int)) = 1 + m1' := IntWalk.i64_in _ (by omega)
          have hC5 : W5.cell? ⟨S, 0, none⟩ = some (.int .i64 N) ∧ W5.cell? ⟨S, 1, none⟩ = some (.slice (some ⟨nb, no, none⟩) n c) := ⟨bS5.cell 0, bS5.cell 1⟩
          have HCALL2 := Lib.hid (HC.out x k (n - k) W5 L5 (by omega) HX.out hH35 hm5 hme5)
          have HM1 := Lib.hid hm1'
          have HH35 := Lib.hid hH35
          clear hH5 hm5 hme5 bS5 hm1' HC hH35
          go_simp
          refine anyC_reads (by kernel_rfl) [6] ?op2 ?oh2 2 _ _ _ (by kernel_rfl) ?ok2
          case oh2 => (simp only [List.filterMap_cons, List.filterMap_nil, List.getElem?_toArray, List.getElem?_cons_zero, List.getElem?_cons_succ]; try rfl)
          refine readC_step (v := ?_) rfl (fun w' hw' => ?_) ?_
          rotate_left
          focus (go_simp; try with_reducible rfl)
          go_simp
          refine readC_nil ?_
          refine anyC_one (i := 11) (by kernel_rfl) rfl rfl (.inr hC5) ?_
          go_simp
          refine HCALL2.out.mono ?_
          clear HCALL2
          rintro e W6 ⟨rfl, hH6, L6, hm6, hme6⟩
          have hH36 : Held [S + 1] W3 W6 := HH35.out.then hH6 (by simp)
          have bS6 := Blk.held hH36 HBS3.out (by simp)
          have how6 := own_heldB HOW3.out hH36 (by simp)
          have hb6 : Below S w W6 := HB3.out.trans (hH36.to (by have := HB3.out.size; have := HBS3.out.lt; omega) (by simp))
          obtain ⟨m0, hm0⟩ : ∃ m, m = bondK N es x.toNat k := ⟨_, rfl⟩
          rw [← hm0]
          have hC6 : W6.cell? ⟨S, 0, none⟩ = some (.int .i64 N) ∧ W6.cell? ⟨S, 1, none⟩ = some (.slice (some ⟨nb, no, none⟩) n c) := ⟨bS6.cell 0, bS6.cell 1⟩
          have HM0 := Lib.hid hm0
          have HBS6 := Lib.hid bS6
          have HOW6 := Lib.hid how6
          have HB6 := Lib.hid hb6
          have HM6 := Lib.hid hm6
          have HME6 := Lib.hid hme6
          have hz6 := hH36.size
          have hSW6 : S + 2 ≤ W6.heap.size := by have := hm6.lt; omega
          have hcond : (m1' + 1 = m0 ↔ 1 + bondF (es.drop (k + 1)) (m1 (m1 (fun j : Int => bitB (freeW N x) j) a) b) = bondF (⟨a, b, ew⟩ :: es.drop (k + 1)) (fun j : Int => bitB (freeW N x) j)) := by
            rw [HM0.out, HM1.out]
            show bondF (es.drop (k + 1)) _ + 1 = bondF (es.drop k) _ ↔ _
            rw [HDROP.out, nw_toNat, nw_toNat, HFREE.out, bitB_but1 _ b (by omega), bitB_but1 _ a (by omega), Nat.add_comm]
          have hcond2 : ((fun j : Int => bitB (freeW N x) j) (a : Int) = true ∧ (fun j : Int => bitB (freeW N x) j) (b : Int) = true) := ⟨by
            show bitB (freeW N x) a = true
            rw [free_bit hN10 x (by omega) (by omega), HBA.out]; rfl, by
            show bitB (freeW N x) b = true
            rw [free_bit hN10 x (by omega) (by omega), HBB.out]; rfl⟩
          clear hH6 hm6 hme6 hH36 bS6 how6 hb6 hm0
          go_simp
          refine anyC_one (i := 12) (by kernel_rfl) rfl rfl (.inr hC6) ?_
          by_cases heq : m1' + 1 = m0
          · have hsel : out = (acc ++ [k]) ++ bondL (es.drop (k + 1)) (k + 1) (fun j : Int => bitB (freeW N z) j) := by
              rw [HBL.out, HDROP.out, bondL.eq_def (⟨a, b, ew⟩ :: _)]
              simp only
              rw [if_pos ⟨hcond2, hcond.1 heq⟩, HFREE.out, bitB_but1 _ b (by omega), bitB_but1 _ a (by omega), List.append_assoc]
              rfl
            have HSEL := Lib.hid hsel
            have heqb : ((1 + (m1' : Int)) == (m0 : Int)) = true := by simp; omega
            clear hsel hcond hcond2 HBL
            go_simp
            refine anyC_end (by kernel_rfl) (.inr hC6) ?_
            have hql : (intsOf acc).length = q := by rw [intsOf, List.length_map, HQ.out]
            clear hC3 hC5 hC6
            go_wp2_with (at_builtin; go_loud (
              refine wpList_push rfl _ _ _ rfl (S + 2) 1 3 (.int .i64 0) 8 Tryd.underlying25 (by kernel_rfl) rfl (by omega) icell W6 #[.int .i64 k] A5 q cap5 (intsOf acc) hql rfl HOW6.out 1 [(k : Int)] rfl rfl _ rfl rfl (by simp [Value.oneCell']) (by unfold maxLen; omega) (by omega) (by omega) ?_
              intro A7 cap7 w7 hown7 hgrow7 hloc7
              have HO7 := Lib.hid hown7
              have HG7 := Lib.hid hgrow7
              clear hown7 hgrow7 hloc7))
            have hne : ∀ g, blkOf A5 = some g → S + 2 ≤ g := fun g hg => (HOW6.out.lt g hg).1
            have bS7 := (HBS6.out.alloc (.cells #[.int .i64 k] 3)).grown HG7.out (fun e => by have := hne S e.symm; omega)
            have hm7 := (HM6.out.alloc (.cells #[.int .i64 k] 3)).grown HG7.out (fun e => by have := hne (S + 1) e.symm; omega)
            have hb7 := (HB6.out.alloc (by omega) (.cells #[.int .i64 k] 3)).grown HG7.out (by rw [size_alloc']; omega) (fun g e => by have := hne g e; omega)
            have e7 : intsOf (acc ++ [k]) = intsOf acc ++ [(k : Int)] := by simp [intsOf]
            have HB7 := Lib.hid bS7
            have HM7 := Lib.hid hm7
            have HBB7 := Lib.hid hb7
            clear bS7 hm7 hb7
            go_roundw
            case rel => exact ⟨k + 1, z, acc ++ [k], A7, cap7, L6, by omega, by simp, rfl, by rw [List.length_append, ← HQ.out]; rfl, HBB7.out, HB7.out, HM7.out, HME6.out, by rw [e7]; exact HO7.out, HZN.out, HSEL.out⟩
            case measure => first | (simp [intOf]; done) | (simp [intOf]; omega)
          · have hsel : out = acc ++ bondL (es.drop (k + 1)) (k + 1) (fun j : Int => bitB (freeW N x) j) := by
              rw [HBL.out, HDROP.out, bondL.eq_def (⟨a, b, ew⟩ :: _)]
              simp only
              rw [if_neg fun h => heq (hcond.2 h.2)]
            have HSEL := Lib.hid hsel
            have heqb : ((1 + (m1' : Int)) == (m0 : Int)) = false := by simp; omega
            clear hsel hcond hcond2 HBL
            go_simp
            refine anyC_end (by kernel_rfl) (.inr hC6) ?_
            clear hC3 hC5 hC6
            go_wp2_with fail
            go_roundw
            case rel => exact ⟨k + 1, x, acc, A5, cap5, L6, by omega, by simp, rfl, by rw [HQ.out], HB6.out, HBS6.out, HM6.out, HME6.out, HOW6.out, HX.out, HSEL.out⟩
            case measure => first | (simp [intOf]; done) | (simp [intOf]; omega)
    · obtain rfl : k = n := by omega
      have hfin : out = acc := by rw [hbl, List.drop_of_length_le (by rw [HL.out]; exact Nat.le_refl _)]; simp [bondL]
      rw [← hfin] at how ⊢
      go_wp2_with fail
      go_ret
      rw [← HS.out]
      exact ⟨A5, cap5, rfl, hb, how.weaken (by omega)⟩
end Go.Proofs.YtodbhgbgeiailaaDoor
