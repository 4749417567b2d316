/- The edges that are taken, one by one: the program, of a graph. Conditions: the graph is one; the table. -/
import Derived.Test.YtodbhgbgeiailaaDoorBondM
namespace Go.Proofs.YtodbhgbgeiailaaDoor
open Go.RowKit Go.Shelf
attribute [local go_sem ↓] w_and w_or w_xor w_andNot w_and1 w_and255 w_xor1 w_or0 w_shl w_shl1 w_shr w_sub w_add w_sub1 w_add1
attribute [local go_sem] w_eq0 w_ne0 w_eq1 w_eq w_ne

theorem good_drop {N : Nat} {es : List Ed} (hg : GoodG N es) (k : Nat) : GoodG N (es.drop k) :=
  ⟨hg.n10, by rw [List.length_drop]; have := hg.m45; omega, fun e he => hg.ed e (List.mem_of_mem_drop he), hg.nd.sublist (List.drop_sublist _ _)⟩
theorem both_bits {x : BitVec 32} {a b : Nat} (ha : a < 32) (hb : b < 32) : wAnd x (wOr (wShl w1 a) (wShl w1 b)) = wOr (wShl w1 a) (wShl w1 b) ↔ bitB x a = true ∧ bitB x b = true := by
  rw [bitB_nat, bitB_nat]
  constructor
  · intro h
    have h1 := congrArg (fun y : BitVec 32 => y.getLsbD a) h
    have h2 := congrArg (fun y : BitVec 32 => y.getLsbD b) h
    simp only [b_and, b_or, b_one] at h1 h2
    simp [ha] at h1
    simp [hb] at h2
    exact ⟨h1, h2⟩
  · rintro ⟨h1, h2⟩
    apply BitVec.eq_of_getLsbD_eq
    intro q hq
    rw [b_and, b_or, b_one, b_one]
    by_cases hqa : q = a
    · subst hqa; simp [h1, ha]
    · by_cases hqb : q = b
      · subst hqb; simp [h2, hb]
      · simp [hqa, hqb]
theorem but_both (x : BitVec 32) (a b : Nat) : wBut x (wOr (wShl w1 a) (wShl w1 b)) = wBut (wBut x (wShl w1 a)) (wShl w1 b) := by
  apply BitVec.eq_of_getLsbD_eq
  intro q hq
  rw [b_but, b_but, b_but, b_or]
  cases x.getLsbD q <;> cases (wShl w1 a).getLsbD q <;> cases (wShl w1 b).getLsbD q <;> rfl

/-- Where the way through the edges has come to. -/
def BondI (S Q N n c : Nat) (A : Option Addr) (es : List Ed) (out : List Nat) (w : World) (s31 s5 s8 s9 : Value) (wr : World) : Prop :=
  ∃ (k : Nat) (x : BitVec 32) (acc : List Nat) (A9 : Option Addr) (cap9 : Nat) (V1 : Value), k ≤ n ∧ s31 = .int .i64 k ∧ s5 = .int .u32 (wN x) ∧ s8 = .int .i64 (bondW (es.drop k) x) ∧ s9 = .slice A9 acc.length cap9 ∧ Below S w wr ∧ Blk wr S 24 #[.int .i64 N, .slice A n c] ∧ Blk wr Q 24 #[.int .i64 N, V1] ∧
    Own wr (Q + 1) 3 1 icell A9 cap9 (intsOf acc) ∧ (∀ j, x.getLsbD j = true → j < N) ∧ out = acc ++ bondL (es.drop k) k (fun j : Int => bitB x j) ∧ TabOk wr
set_option maxRecDepth 100000 in
set_option maxHeartbeats 1000000 in
theorem bonds_Most (N n c : Nat) (A : Option Addr) (es : List Ed) (w : World) (hl : es.length = n) (hg : GoodG N es) (he : graphCheck N es = 0) (hc : n ≤ c) (hr : Els w w.heap.size 3 Ed.cells A es) (ht : TabOk w) :
    Calls Tryd.prog 7 #[.agg #[.int .i64 N, .slice A n c]] w fun e w' => ∃ A' cap, e = .returned (.tuple #[.slice A' (bondL es 0 (fun j : Int => bitB (maskW N) j)).length cap, .int .i64 0]) ∧ Below w.heap.size w w' ∧ Own w' w.heap.size 3 1 icell A' cap (intsOf (bondL es 0 (fun j : Int => bitB (maskW N) j))) := by
  have hn45 : n ≤ 45 := by rw [← hl]; exact hg.m45
  have hN10 := hg.n10
  have h0w := ht.1
  obtain ⟨S, hS⟩ : ∃ S, S = w.heap.size := ⟨_, rfl⟩
  have b0 := Blk.new w 24 #[.int .i64 N, .slice A n c]
  have c0 := b0.cell 0
  have c1 := b0.cell 1
  obtain ⟨W1, hW1⟩ : ∃ W1, W1 = w.alloc (.cells #[.int .i64 N, .slice A n c] 24) := ⟨_, rfl⟩
  have hb1 : Below S w W1 := by rw [hW1, hS]; exact (Below.refl _ w).alloc (Nat.le_refl _) _
  have hz1 : W1.heap.size = S + 1 := by rw [hW1, size_alloc', hS]
  rw [← hW1, ← hS] at b0
  rw [← hS] at hr
  have hc0 := graph_Check N A n c es W1 hl (by unfold maxLen; omega) ((hr.below hb1).more (by omega))
  rw [he] at hc0
  rw [hW1] at hc0
  have HC := Lib.hid hc0
  obtain ⟨out, hout⟩ : ∃ out, out = bondL es 0 (fun j : Int => bitB (maskW N) j) := ⟨_, rfl⟩
  have hol : out.length ≤ 45 := by rw [hout]; exact Nat.le_trans (bondL_lt _ _ _) hg.m45
  rw [← hout]
  have HOUT := Lib.hid hout
  have HR := Lib.hid hr
  have HT := Lib.hid ht
  have HB0 := Lib.hid b0
  have HB1 := Lib.hid hb1
  have HL := Lib.hid hl
  have HW1 := Lib.hid hW1
  have HS := Lib.hid hS
  have hS0 : 0 < S := by omega
  clear hc0 hr ht b0 hb1 hl hW1 hout he hS
  go_enter Tryd.func7, Tryd.ntmps7
  go_wp2_with fail
  refine HC.out.mono ?_
  clear HC
  rintro e v1 ⟨rfl, hbv⟩
  rw [size_alloc', ← HS.out, ← HW1.out] at hbv
  have hk1 := HB0.out.below hbv (by omega)
  have hb2 := HB1.out.trans (hbv.mono (by omega))
  have hzv := hbv.size
  have htv := HT.out.below hb2 (by omega)
  obtain ⟨Q, hQ⟩ : ∃ Q, Q = v1.heap.size := ⟨_, rfl⟩
  obtain ⟨V, hV⟩ : ∃ V, V = v1.alloc (.cells #[.int .i64 N, .slice A n c] 24) := ⟨_, rfl⟩
  have bQ := Blk.new v1 24 #[.int .i64 N, .slice A n c]
  rw [← hV, ← hQ] at bQ
  have hSQ : S < Q := by omega
  have hkV : Blk V S 24 #[.int .i64 N, .slice A n c] := by rw [hV]; exact hk1.alloc _
  have hbV : Below S w V := by rw [hV]; exact hb2.alloc (by omega) _
  have htV : TabOk V := HT.out.below hbV (by omega)
  have hzV : V.heap.size = Q + 1 := by rw [hV, size_alloc', hQ]
  have HASK := Lib.hid (bonds_ask Q N n c A es V HL.out hg bQ ((HR.out.below hbV).more (by omega)) htV)
  have hmask : ∀ j, (maskW N).getLsbD j = true → j < N := fun j hj => by
    rw [b_mask (by omega)] at hj
    exact of_decide_eq_true hj
  have hsz1 : v1.heap.size = Q := hQ.symm
  have c0 := hk1.cell 0
  have c1 := hk1.cell 1
  have e1 := hkV.cell 1
  have HV := Lib.hid hV
  have HQ := Lib.hid hQ
  have HBQ := Lib.hid bQ
  have HKV := Lib.hid hkV
  have HBV := Lib.hid hbV
  have HTV := Lib.hid htV
  clear hbv hk1 hb2 htv hV hQ bQ hkV hbV htV hsz1 HB0 HB1 HT
  rw [← HS.out]
  go_wp2_with fail
  rw [← HV.out, ← HQ.out]
  refine HASK.out.mono ?_
  clear HASK
  rintro e v2 ⟨P, rfl, hb2, hmany⟩
  have hkS2 := HKV.out.below hb2 (by omega)
  have hkQ2 := HBQ.out.below hb2 (by omega)
  have HMANY := Lib.hid (hmany (maskW N) hmask)
  have HB2 := Lib.hid (HBV.out.trans (hb2.mono (by omega)))
  have hz2 := hb2.size
  have HKS2 := Lib.hid hkS2
  have HKQ2 := Lib.hid hkQ2
  clear hb2 hmany hkS2 hkQ2 c0 c1 e1 HV HQ
  go_wp2_with fail
  refine HMANY.out.mono ?_
  clear HMANY
  rintro e v3 ⟨rfl, hb3, ht3⟩
  have hkS3 := HKS2.out.below hb3 (by omega)
  have hkQ3 := HKQ2.out.below hb3 (by omega)
  have hb3' := HB2.out.trans (hb3.mono (by omega))
  have hz3 := hb3.size
  have e1 := hkS3.cell 1
  have hQ3 : Q + 1 ≤ v3.heap.size := hkQ3.lt
  have HKS3 := Lib.hid hkS3
  have HKQ3 := Lib.hid hkQ3
  have HB3 := Lib.hid hb3'
  have HT3 := Lib.hid ht3
  clear hb3 hb3' ht3 hkS3 hkQ3 HB2 HKS2 HKQ2
  go_wp2_with fail
  go_loopw [31, 5, 8, 9] (fun s31 s5 s8 s9 wr => BondI S Q N n c A es out w s31 s5 s8 s9 wr) (fun s31 _ _ _ _ => n - (intOf s31).toNat)
  case atStart =>
    exact ⟨0, maskW N, [], none, 0, _, Nat.zero_le _, rfl, rfl, rfl, rfl, HB3.out, HKS3.out, HKQ3.out, Own.nil _ _ _ (fun _ => rfl), hmask, HOUT.out, HT3.out⟩
  case round =>
    clear HB3 HKS3 HKQ3 HT3 HOUT e1
    rename World => wr
    obtain ⟨k, x, acc, A9, cap9, V1, hk, rfl, rfl, rfl, rfl, hb, bS, bQ, how, hx, hbl, htw⟩ := hrel
    by_cases hlt : k < n
    · have hkl : k < es.length := by rw [HL.out]; exact hlt
      have hr2 := HR.out.below hb
      obtain ⟨nb, no, hA, hnb, g0, g1, g2⟩ := hr2.at3 hkl
      obtain ⟨⟨ea, eb, ew⟩, hee⟩ : ∃ e, e = es[k] := ⟨_, rfl⟩
      have hge := hg.ed _ (List.getElem_mem hkl)
      rw [← hee] at g0 g1 g2 hge
      obtain ⟨a0, a1, b0, b1', hab, _, _⟩ := hge
      simp only at a0 a1 b0 b1' hab g0 g1 g2
      obtain ⟨a, rfl⟩ := Int.eq_ofNat_of_zero_le a0
      obtain ⟨b, rfl⟩ := Int.eq_ofNat_of_zero_le b0
      have haN : a < N := by omega
      have hbN : b < N := by omega
      have habn : a ≠ b := by omega
      have hdrop : es.drop k = ⟨a, b, ew⟩ :: es.drop (k + 1) := by rw [List.drop_eq_getElem_cons hkl, ← hee]
      have hcut : Els w S 3 Ed.cells (if c = k + 1 then A else A.map (·.add ((k + 1) * 3))) (es.drop (k + 1)) := HR.out.cut HL.out hc
      rw [hA] at hcut
      obtain ⟨T, hT⟩ : ∃ T, T = wr.heap.size := ⟨_, rfl⟩
      obtain ⟨W3, hW3⟩ : ∃ W3, W3 = wr.alloc (.cells #[.int .i64 a, .int .i64 b, .int .i64 ew] 52) := ⟨_, rfl⟩
      have b3 := Blk.new wr 52 #[.int .i64 a, .int .i64 b, .int .i64 ew]
      rw [← hW3, ← hT] at b3
      have hQw := bQ.lt
      have hSw := bS.lt
      have bS3 : Blk W3 S 24 #[.int .i64 N, .slice A n c] := by rw [hW3]; exact bS.alloc _
      have bQ3 : Blk W3 Q 24 #[.int .i64 N, V1] := by rw [hW3]; exact bQ.alloc _
      have how3 : Own W3 (Q + 1) 3 1 icell A9 cap9 (intsOf acc) := by rw [hW3]; exact how.alloc _
      have hb3 : Below S w W3 := by rw [hW3]; exact hb.alloc (by omega) _
      have ht3 : TabOk W3 := htw.below (by rw [hW3]; exact (Below.refl S wr).alloc (by omega) _) hS0
      have hz3' : W3.heap.size = T + 1 := by rw [hW3, size_alloc', hT]
      obtain ⟨q, hq⟩ : ∃ q, q = acc.length := ⟨_, rfl⟩
      rw [← hq]
      have hq45 : q ≤ 45 := by rw [hbl, List.length_append] at hol; omega
      obtain ⟨m0, hm0⟩ : ∃ m0, m0 = bondW (es.drop k) x := ⟨_, rfl⟩
      rw [← hm0]
      have hm45 : m0 ≤ 45 := by
        rw [hm0]
        exact Nat.le_trans (bond_len _ _) (by rw [List.length_drop, HL.out]; omega)
      have hwk : IntKind.i64.wrap ((k : Int) + 1) = (k : Int) + 1 := IntWalk.i64_in _ (by omega)
      have s1 := bS.cell 1
      have s3 := bS3.cell 1
      have q3 := bQ3.cell 1
      have qf := bQ3.frozen 1
      rw [hW3] at s3 q3 qf
      have HW3 := Lib.hid hW3
      have HT' := Lib.hid hT
      have HBS3 := Lib.hid bS3
      have HBQ3 := Lib.hid bQ3
      have HOW3 := Lib.hid how3
      have HB3 := Lib.hid hb3
      have HT3 := Lib.hid ht3
      have HX := Lib.hid hx
      have HBL := Lib.hid hbl
      have HDROP := Lib.hid hdrop
      have HQQ := Lib.hid hq
      have HM0 := Lib.hid hm0
      have HE3 := Lib.hid b3
      have HHA := Lib.hid hA
      have HBSw := Lib.hid bS
      have HBQw := Lib.hid bQ
      have HOWw := Lib.hid how
      have HBw := Lib.hid hb
      have HTw := Lib.hid htw
      clear hb bS bQ how hx hbl hdrop hee hr2 b3 bS3 bQ3 how3 hb3 hW3 hT hq hm0 htw ht3
      subst hA
      by_cases hck : c = k + 1
      · rw [if_pos hck] at hcut
        have HCUT := Lib.hid hcut
        have hnl1 : ¬ (k + 1 < c) := by omega
        have hnl2 : ¬ ((k : Int) + 1 < (c : Int)) := by omega
        have hce : c - (k + 1) = 0 := by omega
        have HCE := Lib.hid hce
        clear hck hce
        clear hcut
        go_wp2_with fail
        obtain ⟨W4, hW4⟩ : ∃ W4, W4 = (wr.setCell ⟨Q, 1, none⟩ (.slice (some ⟨nb, no, none⟩) (n - (k + 1)) (c - (k + 1)))).alloc (.cells #[.int .i64 a, .int .i64 b, .int .i64 ew] 52) := ⟨_, rfl⟩
        have bQ4 : Blk W4 Q 24 #[.int .i64 N, .slice (some ⟨nb, no, none⟩) (n - (k + 1)) (c - (k + 1))] := by rw [hW4]; exact (HBQw.out.put 1 _).alloc _
        have bS4 : Blk W4 S 24 #[.int .i64 N, .slice (some ⟨nb, no, none⟩) n c] := by rw [hW4]; exact (HBSw.out.far (p := ⟨Q, 1, none⟩) (show S ≠ Q by omega) _).alloc _
        have bT4 : Blk W4 T 52 #[.int .i64 a, .int .i64 b, .int .i64 ew] := by
          have := Blk.new (wr.setCell ⟨Q, 1, none⟩ (.slice (some ⟨nb, no, none⟩) (n - (k + 1)) (c - (k + 1)))) 52 #[.int .i64 a, .int .i64 b, .int .i64 ew]
          rw [World.size_setCell, ← HT'.out, ← hW4] at this
          exact this
        have how4 : Own W4 (Q + 1) 3 1 icell A9 cap9 (intsOf acc) := by rw [hW4]; exact (HOWw.out.low (p := ⟨Q, 1, none⟩) (show Q < Q + 1 by omega) _).alloc _
        have hbs4 : Below S wr W4 := by rw [hW4]; exact ((Below.refl S wr).setCell (p := ⟨Q, 1, none⟩) (show S ≤ Q by omega) _).alloc (by rw [World.size_setCell]; omega) _
        have hb4 : Below S w W4 := HBw.out.trans hbs4
        have ht4 : TabOk W4 := HTw.out.below hbs4 hS0
        have hzb := hbs4.size
        have hz4 : W4.heap.size = T + 1 := by rw [hW4, size_alloc', World.size_setCell, HT'.out]
        rw [← hW4, ← HT'.out]
        have x0 := bT4.cell 0
        have x1 := bT4.cell 1
        have HASK := Lib.hid (bonds_ask Q N (n - (k + 1)) (c - (k + 1)) (some ⟨nb, no, none⟩) (es.drop (k + 1)) (W4.drewN 1) (by rw [List.length_drop, HL.out]) (good_drop hg _) (bQ4.drewN 1) ((HCUT.out.below hb4).more (by show S ≤ W4.heap.size; omega)) (ht4.drewN 1))
        have HBS4 := Lib.hid bS4
        have HBQ4 := Lib.hid bQ4
        have HOW4 := Lib.hid how4
        have HB4 := Lib.hid hb4
        have HT4 := Lib.hid ht4
        clear hW4 bQ4 bS4 bT4 how4 hb4 ht4 s1 s3 q3 qf HBS3 HBQ3 HOW3 HB3 HT3 HE3 hbs4
        refine region_plain 99 8 (fun w' => w' = W4.drew) (by kernel_rfl) rfl ?_
        refine anyC_reads (by kernel_rfl) [0, 1, 2, 3, 4, 5, 6, 7] ?op1 ?oh1 0 _ _ _ (by kernel_rfl) ?ok1
        case oh1 => (simp only [List.filterMap_cons, List.filterMap_nil, List.getElem?_toArray, List.getElem?_cons_zero, List.getElem?_cons_succ]; try rfl)
        repeat (
          refine readC_step (v := ?_) rfl (fun w' hw' => ?_) ?_
          rotate_left
          focus (subst hw'; go_simp; try with_reducible rfl)
          go_simp)
        refine readC_nil ?_
        refine anyC_end (by kernel_rfl) (.inr rfl) ?_
        by_cases hfree : bitB x a = true ∧ bitB x b = true
        · have hbt : (wAnd x (wOr (wShl w1 a) (wShl w1 b)) == wOr (wShl w1 a) (wShl w1 b)) = true := by
            rw [beq_iff_eq, both_bits (by omega) (by omega)]; exact hfree
          have hyN : ∀ j, (wBut x (wOr (wShl w1 a) (wShl w1 b))).getLsbD j = true → j < N := fun j hj => by
            rw [b_but] at hj
            simp at hj
            exact HX.out j hj.1
          go_wp2_with fail
          refine HASK.out.mono ?_
          clear HASK
          rintro e w5 ⟨P5, rfl, hb5, hmany⟩
          have HMANY := Lib.hid (hmany _ hyN)
          have HB5 := Lib.hid hb5
          clear hb5 hmany
          go_wp2_with fail
          refine HMANY.out.mono ?_
          clear HMANY
          rintro e w6 ⟨rfl, hb6, ht6⟩
          have hb56 := HB5.out.trans hb6
          have hsz4 : (W4.drewN 1).heap.size = T + 1 := hz4
          rw [hsz4] at hb56
          have bS6 := (HBS4.out.drewN 1).below hb56 (by omega)
          have bQ6 := (HBQ4.out.drewN 1).below hb56 (by omega)
          have how6 := (HOW4.out.drewN 1).below hb56 (by rw [hsz4]; exact Nat.le_refl _)
          have hb6' : Below S w w6 := (below_drewN HB4.out 1).trans (hb56.mono (by omega))
          have hsz6 : T + 1 ≤ w6.heap.size := by rw [← hsz4]; exact hb56.size
          have hyy : (fun j : Int => bitB (wBut x (wOr (wShl w1 a) (wShl w1 b))) j) = m1 (m1 (fun j : Int => bitB x j) a) b := by
            rw [but_both, bitB_but1 _ b (by omega), bitB_but1 _ a (by omega)]
          obtain ⟨y, hy⟩ : ∃ y, y = wBut x (wOr (wShl w1 a) (wShl w1 b)) := ⟨_, rfl⟩
          rw [← hy] at hyN hyy ⊢
          obtain ⟨m1', hm1'⟩ : ∃ m, m = bondW (es.drop (k + 1)) y := ⟨_, rfl⟩
          rw [← hm1']
          have hb45 : m1' ≤ 45 := by
            rw [hm1']
            exact Nat.le_trans (bond_len _ _) (by rw [List.length_drop, HL.out]; omega)
          have hw1 : IntKind.i64.wrap (1 + (m1' : Int)) = 1 + m1' := IntWalk.i64_in _ (by omega)
          have hw2 : IntKind.i64.wrap ((m0 : Int) - 1) = (m0 : Int) - 1 := IntWalk.i64_in _ (by omega)
          have hm1e : m1' = bondF (es.drop (k + 1)) (m1 (m1 (fun j : Int => bitB x j) a) b) := by rw [hm1', ← hyy]
          have hm0e : m0 = bondF (⟨a, b, ew⟩ :: es.drop (k + 1)) (fun j : Int => bitB x j) := by rw [HM0.out, ← HDROP.out]
          have HBS6 := Lib.hid bS6
          have HBQ6 := Lib.hid bQ6
          have HOW6 := Lib.hid how6
          have HB6 := Lib.hid hb6'
          have HT6 := Lib.hid ht6
          have HYN := Lib.hid hyN
          have HY := Lib.hid hy
          have HM1 := Lib.hid hm1'
          have HYY := Lib.hid hyy
          have HM1E := Lib.hid hm1e
          have HM0E := Lib.hid hm0e
          clear hb56 hb6 hsz4 bS6 bQ6 how6 hb6' ht6 hyN hy hm1' hyy hm1e hm0e HB5 HBS4 HBQ4 HOW4 HB4 HT4
          by_cases heq : 1 + m1' = m0
          · have heqb : ((1 + (m1' : Int)) == (m0 : Int)) = true := by simp; omega
            have hsel : out = (acc ++ [k]) ++ bondL (es.drop (k + 1)) (k + 1) (fun j : Int => bitB y j) := by
              rw [HBL.out, HDROP.out, bondL.eq_def (⟨a, b, ew⟩ :: _)]
              simp only
              rw [if_pos ⟨hfree, by rw [← HM1E.out, ← HM0E.out]; exact heq⟩, HYY.out, List.append_assoc]
              rfl
            have HSEL := Lib.hid hsel
            have hql : (intsOf acc).length = q := by rw [intsOf, List.length_map, HQQ.out]
            have hnx : ((bondW (es.drop (k + 1)) y : Nat) : Int) = (m0 : Int) - 1 := by rw [← HM1.out]; omega
            have HNX := Lib.hid hnx
            clear hsel hfree HBL heq hnx hbt
            go_wp2_with (at_builtin; go_loud (
              refine wpList_push rfl _ _ _ rfl (Q + 1) 1 3 (.int .i64 0) 8 Tryd.underlying25 (by kernel_rfl) rfl (by omega) icell w6 #[.int .i64 k] A9 q cap9 (intsOf acc) hql rfl HOW6.out 1 [(k : Int)] rfl rfl _ rfl rfl (by simp [Value.oneCell']) (by unfold maxLen; omega) (by omega) (by omega) ?_
              intro A7 cap7 w7 hown7 hgrow7 hloc7
              have HO7 := Lib.hid hown7
              have HG7 := Lib.hid hgrow7
              clear hown7 hgrow7 hloc7))
            have hne : ∀ g, blkOf A9 = some g → Q + 1 ≤ g := fun g hg => (HOW6.out.lt g hg).1
            have bS7 := (HBS6.out.alloc (.cells #[.int .i64 k] 3)).grown HG7.out (fun e => by have := hne S e.symm; omega)
            have bQ7 := (HBQ6.out.alloc (.cells #[.int .i64 k] 3)).grown HG7.out (fun e => by have := hne Q e.symm; omega)
            have hb7 := (HB6.out.alloc (by omega) (.cells #[.int .i64 k] 3)).grown HG7.out (by rw [size_alloc']; omega) (fun g e => by have := hne g e; omega)
            have e7 : intsOf (acc ++ [k]) = intsOf acc ++ [(k : Int)] := by simp [intsOf]
            have ht7 : TabOk w7 := (HT6.out.below (B := S) ((Below.refl S w6).alloc (by omega) (.cells #[.int .i64 k] 3)) hS0).below (B := S) ((Below.refl S _).grown HG7.out (by rw [size_alloc']; omega) (fun g e => by have := hne g e; omega)) hS0
            have HBS7 := Lib.hid bS7
            have HBQ7 := Lib.hid bQ7
            have HB7 := Lib.hid hb7
            have HT7 := Lib.hid ht7
            clear bS7 bQ7 hb7 ht7
            rw [← HY.out]
            go_roundw
            case rel => exact ⟨k + 1, y, acc ++ [k], A7, cap7, _, by omega, by simp, rfl, by rw [HNX.out], by rw [List.length_append, ← HQQ.out]; rfl, HB7.out, HBS7.out, HBQ7.out, by rw [e7]; exact HO7.out, HYN.out, HSEL.out, HT7.out⟩
            case measure => first | (simp [intOf]; done) | (simp [intOf]; omega)
          · have heqb : ((1 + (m1' : Int)) == (m0 : Int)) = false := by simp; omega
            have hn : ¬ (((fun j : Int => bitB x j) (a : Int) = true ∧ (fun j : Int => bitB x j) (b : Int) = true) ∧ 1 + bondF (es.drop (k + 1)) (m1 (m1 (fun j : Int => bitB x j) a) b) = bondF (⟨a, b, ew⟩ :: es.drop (k + 1)) (fun j : Int => bitB x j)) := fun h => heq (by rw [HM1E.out, HM0E.out]; exact h.2)
            have hskip : m0 = bondW (es.drop (k + 1)) x ∧ out = acc ++ bondL (es.drop (k + 1)) (k + 1) (fun j : Int => bitB x j) := by
              refine ⟨by rw [HM0E.out]; exact bond_skip hn, ?_⟩
              rw [HBL.out, HDROP.out, bondL.eq_def (⟨a, b, ew⟩ :: _)]
              simp only
              rw [if_neg hn]
            have HSK := Lib.hid hskip
            clear hskip hfree HBL hn heq hbt
            go_wp2_with fail
            go_roundw
            case rel => exact ⟨k + 1, x, acc, A9, cap9, _, by omega, by simp, rfl, by rw [← HSK.out.1], by rw [HQQ.out], HB6.out, HBS6.out, HBQ6.out, HOW6.out, HX.out, HSK.out.2, HT6.out⟩
            case measure => first | (simp [intOf]; done) | (simp [intOf]; omega)
        · have hbt : (wAnd x (wOr (wShl w1 a) (wShl w1 b)) == wOr (wShl w1 a) (wShl w1 b)) = false := by
            rw [beq_eq_false_iff_ne]
            intro h
            exact hfree ((both_bits (by omega) (by omega)).1 h)
          have hskip : bondW (es.drop k) x = bondW (es.drop (k + 1)) x ∧ out = acc ++ bondL (es.drop (k + 1)) (k + 1) (fun j : Int => bitB x j) := by
            have hn : ¬ (((fun j : Int => bitB x j) (a : Int) = true ∧ (fun j : Int => bitB x j) (b : Int) = true) ∧ 1 + bondF (es.drop (k + 1)) (m1 (m1 (fun j : Int => bitB x j) a) b) = bondF (⟨a, b, ew⟩ :: es.drop (k + 1)) (fun j : Int => bitB x j)) := fun h => hfree h.1
            refine ⟨?_, ?_⟩
            · show bondF (es.drop k) _ = _
              rw [HDROP.out]
              exact bond_skip hn
            · rw [HBL.out, HDROP.out, bondL.eq_def (⟨a, b, ew⟩ :: _)]
              simp only
              rw [if_neg hn]
          have HSK := Lib.hid hskip
          clear hskip hfree HBL
          go_wp2_with fail
          go_roundw
          case rel => exact ⟨k + 1, x, acc, A9, cap9, _, by omega, by simp, rfl, by rw [HM0.out, HSK.out.1], by rw [HQQ.out], HB4.out.drew, HBS4.out.drew, HBQ4.out.drew, HOW4.out.drew, HX.out, HSK.out.2, HT4.out.drewN 1⟩
          case measure => first | (simp [intOf]; done) | (simp [intOf]; omega)
      · rw [if_neg hck] at hcut
        have HCUT := Lib.hid hcut
        clear hcut
        go_wp2_with fail
        obtain ⟨W4, hW4⟩ : ∃ W4, W4 = (wr.setCell ⟨Q, 1, none⟩ (.slice (some ⟨nb, no + (k + 1) * 3, none⟩) (n - (k + 1)) (c - (k + 1)))).alloc (.cells #[.int .i64 a, .int .i64 b, .int .i64 ew] 52) := ⟨_, rfl⟩
        have bQ4 : Blk W4 Q 24 #[.int .i64 N, .slice (some ⟨nb, no + (k + 1) * 3, none⟩) (n - (k + 1)) (c - (k + 1))] := by rw [hW4]; exact (HBQw.out.put 1 _).alloc _
        have bS4 : Blk W4 S 24 #[.int .i64 N, .slice (some ⟨nb, no, none⟩) n c] := by rw [hW4]; exact (HBSw.out.far (p := ⟨Q, 1, none⟩) (show S ≠ Q by omega) _).alloc _
        have bT4 : Blk W4 T 52 #[.int .i64 a, .int .i64 b, .int .i64 ew] := by
          have := Blk.new (wr.setCell ⟨Q, 1, none⟩ (.slice (some ⟨nb, no + (k + 1) * 3, none⟩) (n - (k + 1)) (c - (k + 1)))) 52 #[.int .i64 a, .int .i64 b, .int .i64 ew]
          rw [World.size_setCell, ← HT'.out, ← hW4] at this
          exact this
        have how4 : Own W4 (Q + 1) 3 1 icell A9 cap9 (intsOf acc) := by rw [hW4]; exact (HOWw.out.low (p := ⟨Q, 1, none⟩) (show Q < Q + 1 by omega) _).alloc _
        have hbs4 : Below S wr W4 := by rw [hW4]; exact ((Below.refl S wr).setCell (p := ⟨Q, 1, none⟩) (show S ≤ Q by omega) _).alloc (by rw [World.size_setCell]; omega) _
        have hb4 : Below S w W4 := HBw.out.trans hbs4
        have ht4 : TabOk W4 := HTw.out.below hbs4 hS0
        have hzb := hbs4.size
        have hz4 : W4.heap.size = T + 1 := by rw [hW4, size_alloc', World.size_setCell, HT'.out]
        rw [← hW4, ← HT'.out]
        have x0 := bT4.cell 0
        have x1 := bT4.cell 1
        have HASK := Lib.hid (bonds_ask Q N (n - (k + 1)) (c - (k + 1)) (some ⟨nb, no + (k + 1) * 3, none⟩) (es.drop (k + 1)) (W4.drewN 1) (by rw [List.length_drop, HL.out]) (good_drop hg _) (bQ4.drewN 1) ((HCUT.out.below hb4).more (by show S ≤ W4.heap.size; omega)) (ht4.drewN 1))
        have HBS4 := Lib.hid bS4
        have HBQ4 := Lib.hid bQ4
        have HOW4 := Lib.hid how4
        have HB4 := Lib.hid hb4
        have HT4 := Lib.hid ht4
        clear hW4 bQ4 bS4 bT4 how4 hb4 ht4 s1 s3 q3 qf HBS3 HBQ3 HOW3 HB3 HT3 HE3 hbs4
        refine region_plain 99 8 (fun w' => w' = W4.drew) (by kernel_rfl) rfl ?_
        refine anyC_reads (by kernel_rfl) [0, 1, 2, 3, 4, 5, 6, 7] ?op2 ?oh2 0 _ _ _ (by kernel_rfl) ?ok2
        case oh2 => (simp only [List.filterMap_cons, List.filterMap_nil, List.getElem?_toArray, List.getElem?_cons_zero, List.getElem?_cons_succ]; try rfl)
        repeat (
          refine readC_step (v := ?_) rfl (fun w' hw' => ?_) ?_
          rotate_left
          focus (subst hw'; go_simp; try with_reducible rfl)
          go_simp)
        refine readC_nil ?_
        refine anyC_end (by kernel_rfl) (.inr rfl) ?_
        by_cases hfree : bitB x a = true ∧ bitB x b = true
        · have hbt : (wAnd x (wOr (wShl w1 a) (wShl w1 b)) == wOr (wShl w1 a) (wShl w1 b)) = true := by
            rw [beq_iff_eq, both_bits (by omega) (by omega)]; exact hfree
          have hyN : ∀ j, (wBut x (wOr (wShl w1 a) (wShl w1 b))).getLsbD j = true → j < N := fun j hj => by
            rw [b_but] at hj
            simp at hj
            exact HX.out j hj.1
          go_wp2_with fail
          refine HASK.out.mono ?_
          clear HASK
          rintro e w5 ⟨P5, rfl, hb5, hmany⟩
          have HMANY := Lib.hid (hmany _ hyN)
          have HB5 := Lib.hid hb5
          clear hb5 hmany
          go_wp2_with fail
          refine HMANY.out.mono ?_
          clear HMANY
          rintro e w6 ⟨rfl, hb6, ht6⟩
          have hb56 := HB5.out.trans hb6
          have hsz4 : (W4.drewN 1).heap.size = T + 1 := hz4
          rw [hsz4] at hb56
          have bS6 := (HBS4.out.drewN 1).below hb56 (by omega)
          have bQ6 := (HBQ4.out.drewN 1).below hb56 (by omega)
          have how6 := (HOW4.out.drewN 1).below hb56 (by rw [hsz4]; exact Nat.le_refl _)
          have hb6' : Below S w w6 := (below_drewN HB4.out 1).trans (hb56.mono (by omega))
          have hsz6 : T + 1 ≤ w6.heap.size := by rw [← hsz4]; exact hb56.size
          have hyy : (fun j : Int => bitB (wBut x (wOr (wShl w1 a) (wShl w1 b))) j) = m1 (m1 (fun j : Int => bitB x j) a) b := by
            rw [but_both, bitB_but1 _ b (by omega), bitB_but1 _ a (by omega)]
          obtain ⟨y, hy⟩ : ∃ y, y = wBut x (wOr (wShl w1 a) (wShl w1 b)) := ⟨_, rfl⟩
          rw [← hy] at hyN hyy ⊢
          obtain ⟨m1', hm1'⟩ : ∃ m, m = bondW (es.drop (k + 1)) y := ⟨_, rfl⟩
          rw [← hm1']
          have hb45 : m1' ≤ 45 := by
            rw [hm1']
            exact Nat.le_trans (bond_len _ _) (by rw [List.length_drop, HL.out]; omega)
          have hw1 : IntKind.i64.wrap (1 + (m1' : Int)) = 1 + m1' := IntWalk.i64_in _ (by omega)
          have hw2 : IntKind.i64.wrap ((m0 : Int) - 1) = (m0 : Int) - 1 := IntWalk.i64_in _ (by omega)
          have hm1e : m1' = bondF (es.drop (k + 1)) (m1 (m1 (fun j : Int => bitB x j) a) b) := by rw [hm1', ← hyy]
          have hm0e : m0 = bondF (⟨a, b, ew⟩ :: es.drop (k + 1)) (fun j : Int => bitB x j) := by rw [HM0.out, ← HDROP.out]
          have HBS6 := Lib.hid bS6
          have HBQ6 := Lib.hid bQ6
          have HOW6 := Lib.hid how6
          have HB6 := Lib.hid hb6'
          have HT6 := Lib.hid ht6
          have HYN := Lib.hid hyN
          have HY := Lib.hid hy
          have HM1 := Lib.hid hm1'
          have HYY := Lib.hid hyy
          have HM1E := Lib.hid hm1e
          have HM0E := Lib.hid hm0e
          clear hb56 hb6 hsz4 bS6 bQ6 how6 hb6' ht6 hyN hy hm1' hyy hm1e hm0e HB5 HBS4 HBQ4 HOW4 HB4 HT4
          by_cases heq : 1 + m1' = m0
          · have heqb : ((1 + (m1' : Int)) == (m0 : Int)) = true := by simp; omega
            have hsel : out = (acc ++ [k]) ++ bondL (es.drop (k + 1)) (k + 1) (fun j : Int => bitB y j) := by
              rw [HBL.out, HDROP.out, bondL.eq_def (⟨a, b, ew⟩ :: _)]
              simp only
              rw [if_pos ⟨hfree, by rw [← HM1E.out, ← HM0E.out]; exact heq⟩, HYY.out, List.append_assoc]
              rfl
            have HSEL := Lib.hid hsel
            have hql : (intsOf acc).length = q := by rw [intsOf, List.length_map, HQQ.out]
            have hnx : ((bondW (es.drop (k + 1)) y : Nat) : Int) = (m0 : Int) - 1 := by rw [← HM1.out]; omega
            have HNX := Lib.hid hnx
            clear hsel hfree HBL heq hnx hbt
            go_wp2_with (at_builtin; go_loud (
              refine wpList_push rfl _ _ _ rfl (Q + 1) 1 3 (.int .i64 0) 8 Tryd.underlying25 (by kernel_rfl) rfl (by omega) icell w6 #[.int .i64 k] A9 q cap9 (intsOf acc) hql rfl HOW6.out 1 [(k : Int)] rfl rfl _ rfl rfl (by simp [Value.oneCell']) (by unfold maxLen; omega) (by omega) (by omega) ?_
              intro A7 cap7 w7 hown7 hgrow7 hloc7
              have HO7 := Lib.hid hown7
              have HG7 := Lib.hid hgrow7
              clear hown7 hgrow7 hloc7))
            have hne : ∀ g, blkOf A9 = some g → Q + 1 ≤ g := fun g hg => (HOW6.out.lt g hg).1
            have bS7 := (HBS6.out.alloc (.cells #[.int .i64 k] 3)).grown HG7.out (fun e => by have := hne S e.symm; omega)
            have bQ7 := (HBQ6.out.alloc (.cells #[.int .i64 k] 3)).grown HG7.out (fun e => by have := hne Q e.symm; omega)
            have hb7 := (HB6.out.alloc (by omega) (.cells #[.int .i64 k] 3)).grown HG7.out (by rw [size_alloc']; omega) (fun g e => by have := hne g e; omega)
            have e7 : intsOf (acc ++ [k]) = intsOf acc ++ [(k : Int)] := by simp [intsOf]
            have ht7 : TabOk w7 := (HT6.out.below (B := S) ((Below.refl S w6).alloc (by omega) (.cells #[.int .i64 k] 3)) hS0).below (B := S) ((Below.refl S _).grown HG7.out (by rw [size_alloc']; omega) (fun g e => by have := hne g e; omega)) hS0
            have HBS7 := Lib.hid bS7
            have HBQ7 := Lib.hid bQ7
            have HB7 := Lib.hid hb7
            have HT7 := Lib.hid ht7
            clear bS7 bQ7 hb7 ht7
            rw [← HY.out]
            go_roundw
            case rel => exact ⟨k + 1, y, acc ++ [k], A7, cap7, _, by omega, by simp, rfl, by rw [HNX.out], by rw [List.length_append, ← HQQ.out]; rfl, HB7.out, HBS7.out, HBQ7.out, by rw [e7]; exact HO7.out, HYN.out, HSEL.out, HT7.out⟩
            case measure => first | (simp [intOf]; done) | (simp [intOf]; omega)
          · have heqb : ((1 + (m1' : Int)) == (m0 : Int)) = false := by simp; omega
            have hn : ¬ (((fun j : Int => bitB x j) (a : Int) = true ∧ (fun j : Int => bitB x j) (b : Int) = true) ∧ 1 + bondF (es.drop (k + 1)) (m1 (m1 (fun j : Int => bitB x j) a) b) = bondF (⟨a, b, ew⟩ :: es.drop (k + 1)) (fun j : Int => bitB x j)) := fun h => heq (by rw [HM1E.out, HM0E.out]; exact h.2)
            have hskip : m0 = bondW (es.drop (k + 1)) x ∧ out = acc ++ bondL (es.drop (k + 1)) (k + 1) (fun j : Int => bitB x j) := by
              refine ⟨by rw [HM0E.out]; exact bond_skip hn, ?_⟩
              rw [HBL.out, HDROP.out, bondL.eq_def (⟨a, b, ew⟩ :: _)]
              simp only
              rw [if_neg hn]
            have HSK := Lib.hid hskip
            clear hskip hfree HBL hn heq hbt
            go_wp2_with fail
            go_roundw
            case rel => exact ⟨k + 1, x, acc, A9, cap9, _, by omega, by simp, rfl, by rw [← HSK.out.1], by rw [HQQ.out], HB6.out, HBS6.out, HBQ6.out, HOW6.out, HX.out, HSK.out.2, HT6.out⟩
            case measure => first | (simp [intOf]; done) | (simp [intOf]; omega)
        · have hbt : (wAnd x (wOr (wShl w1 a) (wShl w1 b)) == wOr (wShl w1 a) (wShl w1 b)) = false := by
            rw [beq_eq_false_iff_ne]
            intro h
            exact hfree ((both_bits (by omega) (by omega)).1 h)
          have hskip : bondW (es.drop k) x = bondW (es.drop (k + 1)) x ∧ out = acc ++ bondL (es.drop (k + 1)) (k + 1) (fun j : Int => bitB x j) := by
            have hn : ¬ (((fun j : Int => bitB x j) (a : Int) = true ∧ (fun j : Int => bitB x j) (b : Int) = true) ∧ 1 + bondF (es.drop (k + 1)) (m1 (m1 (fun j : Int => bitB x j) a) b) = bondF (⟨a, b, ew⟩ :: es.drop (k + 1)) (fun j : Int => bitB x j)) := fun h => hfree h.1
            refine ⟨?_, ?_⟩
            · show bondF (es.drop k) _ = _
              rw [HDROP.out]
              exact bond_skip hn
            · rw [HBL.out, HDROP.out, bondL.eq_def (⟨a, b, ew⟩ :: _)]
              simp only
              rw [if_neg hn]
          have HSK := Lib.hid hskip
          clear hskip hfree HBL
          go_wp2_with fail
          go_roundw
          case rel => exact ⟨k + 1, x, acc, A9, cap9, _, by omega, by simp, rfl, by rw [HM0.out, HSK.out.1], by rw [HQQ.out], HB4.out.drew, HBS4.out.drew, HBQ4.out.drew, HOW4.out.drew, HX.out, HSK.out.2, HT4.out.drewN 1⟩
          case measure => first | (simp [intOf]; done) | (simp [intOf]; omega)
    · obtain rfl : k = n := by omega
      have hfin : out = acc := by rw [hbl, List.drop_of_length_le (by rw [HL.out]; exact Nat.le_refl _)]; simp [bondL]
      rw [← hfin] at how ⊢
      go_wp2_with fail
      go_ret2
      rw [← HS.out]
      exact ⟨A9, cap9, rfl, hb, how.weaken (by omega)⟩
end Go.Proofs.YtodbhgbgeiailaaDoor
