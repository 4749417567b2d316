/- The most edges that can be had from one on: the reference's search by a table. Conditions: the edges read as a list; the table holds what is right. -/
import Derived.Test.YtodbhgbgeiailaaDoorBondA
import Derived.Test.YtodbhgbgeiailaaDoorCount
namespace Go.Proofs.YtodbhgbgeiailaaDoor
open Go.RowKit Go.Shelf
attribute [local go_sem ↓] w_and w_or w_xor w_andNot w_and1 w_and255 w_xor1 w_or0 w_shl w_shl1 w_shr w_sub w_add w_sub1 w_add1
attribute [local go_sem] w_eq0 w_ne0 w_eq1 w_eq w_ne

theorem keyL_u32 {P : Program} {t : TypeId} (h : P.underlying t = some (.int .u32)) : KeyL P t (fun n : Int => .int .u32 n) where
  chk b a w := MapKept.run_checkKey h (by simp [MapKept.IsKey]) b 9999
  eqv a b w := by
    unfold Op.equal
    rw [show Op.maxDepth = 9999 + 1 from rfl, run_equalIn_int w 9999 t .u32 .u32 a b h]
    rfl
  desc := ⟨_, h, .inr fun a b => by simp [Instr.sameNow]; rfl⟩
  self a := by simp [Instr.sameBits]
abbrev kv32 : Int → Value := fun n => .int .u32 n
def keyB (u k : Nat) : Int := ((u * 64 + k : Nat) : Int)
def MemoK (f : Nat → Nat → Nat) (L : List (Int × Value)) : Prop := ∀ u k v, k ≤ 45 → getK L (keyB u k) = some v → v = .int .i64 (f u k)
theorem MemoK.put {f : Nat → Nat → Nat} {L : List (Int × Value)} (h : MemoK f L) {u k : Nat} (hk : k ≤ 45) : MemoK f (putK L (keyB u k) (.int .i64 (f u k))) := fun u' k' v hk' hy => by
  by_cases e : keyB u' k' = keyB u k
  · rw [e, getK_put_same] at hy
    injection hy with hy
    unfold keyB at e
    have e1 : u' = u := by omega
    have e2 : k' = k := by omega
    rw [e1, e2]
    exact hy.symm
  · rw [getK_put_other L _ e] at hy
    exact h u' k' v hk' hy
/-- What is free: all nodes but those that are used. -/
abbrev freeW (N : Nat) (x : BitVec 32) : BitVec 32 := wBut (maskW N) x
abbrev bondK (N : Nat) (es : List Ed) (u k : Nat) : Nat := bondW (es.drop k) (freeW N (nw u))
theorem bitB_butm {N : Nat} (hN : N < 32) (x : BitVec 32) {i : Int} (h0 : 0 ≤ i) (h1 : i < N) : bitB (wBut (maskW N) x) i = !bitB x i := by
  obtain ⟨m, rfl⟩ := Int.eq_ofNat_of_zero_le h0
  rw [bitB_nat, bitB_nat, b_but, b_mask hN]
  have : m < N := by omega
  simp [this]
theorem free_bit {N : Nat} (hN : N ≤ 10) (x : BitVec 32) {a : Int} (h0 : 0 ≤ a) (h1 : a < N) : bitB (freeW N x) a = !bitB x a := bitB_butm (by omega) x h0 h1
theorem free_add {N : Nat} {x : BitVec 32} {a b : Nat} (hN : N ≤ 10) (ha : a < N) (hb : b < N) (hab : a ≠ b) (hxa : x.getLsbD a = false) (hxb : x.getLsbD b = false) : freeW N (wAdd (wAdd x (wShl w1 a)) (wShl w1 b)) = wBut (wBut (freeW N x) (wShl w1 a)) (wShl w1 b) := by
  have h1 : (wAdd x (wShl w1 a)).getLsbD b = false := by
    rw [b_add hxa, hxb, b_one]
    simp
    omega
  apply BitVec.eq_of_getLsbD_eq
  intro q hq
  rw [b_but, b_but, b_but, b_but, b_add h1, b_add hxa]
  cases (maskW N).getLsbD q <;> cases x.getLsbD q <;> cases (wShl w1 a).getLsbD q <;> cases (wShl w1 b).getLsbD q <;> rfl
theorem used_lt {N : Nat} {x : BitVec 32} (hN : N ≤ 10) (hx : ∀ j, x.getLsbD j = true → j < N) : x.toNat < 1024 := by
  have : x.toNat < 2 ^ N := Nat.lt_pow_two_of_testBit _ fun j hj => by
    cases h : x.toNat.testBit j with
    | false => rfl
    | true =>
      have := hx j (by unfold BitVec.getLsbD; exact h)
      omega
  have h2 : 2 ^ N ≤ 2 ^ 10 := Nat.pow_le_pow_right (by omega) hN
  omega

set_option maxRecDepth 100000 in
set_option maxHeartbeats 1000000 in
theorem ref_bond (N n r B c : Nat) (A : Option Addr) (es : List Ed) (hl : es.length = n) (hg : GoodG N es) (hBr : B ≤ r) : ∀ (d k : Nat) (x : BitVec 32) (w : World) (L : List (Int × Value)), k + d = n → (∀ j, x.getLsbD j = true → j < N) → Els w B 3 Ed.cells A es → B ≤ w.heap.size → MapB w r kv32 L → MemoK (bondK N es) L →
    Calls Tryd.prog 22 #[.agg #[.int .i64 N, .slice A n c], .int .i64 k, .int .u32 (wN x), .map (some r)] w fun e w' => e = .returned (.int .i64 (bondK N es x.toNat k)) ∧ Held [r] w w' ∧ ∃ L', MapB w' r kv32 L' ∧ MemoK (bondK N es) L' := by
  intro d
  induction d with
  | zero =>
    intro k x w L hkd hx hr hBw hm hme
    obtain rfl : k = n := by omega
    have e0 : bondK N es x.toNat k = 0 := by
      unfold bondK bondW
      rw [List.drop_of_length_le (by omega)]
      rfl
    rw [e0]
    go_enter Tryd.func22, Tryd.ntmps22
    go_wp2_with fail
    go_ret
    exact ⟨rfl, (Held.refl [r] w).alloc _, L, hm.alloc _, hme⟩
  | succ d ih =>
    intro k x w L hkd hx hr hBw hm hme
    have hkn : k < n := by omega
    have hkl : k < es.length := by omega
    have hn45 : n ≤ 45 := by rw [← hl]; exact hg.m45
    have hN10 := hg.n10
    have hx1 := used_lt hN10 hx
    have hmul : IntKind.u32.wrap (wN x * 64) = (x.toNat : Int) * 64 := by
      show IntKind.u32.wrap ((x.toNat : Int) * 64) = _
      unfold IntKind.wrap
      simp [IntKind.bits]
      omega
    have hck : IntKind.u32.wrap (k : Int) = k := by unfold IntKind.wrap; simp [IntKind.bits]; omega
    have hkey : (x.toNat : Int) * 64 + (k : Int) = keyB x.toNat k := by unfold keyB; omega
    have hadd : IntKind.u32.wrap ((x.toNat : Int) * 64 + (k : Int)) = (x.toNat : Int) * 64 + (k : Int) := by
      unfold IntKind.wrap
      simp [IntKind.bits]
      omega
    have hk1 : IntKind.i64.wrap ((k : Int) + 1) = ((k + 1 : Nat) : Int) := by rw [IntWalk.i64_in _ (by omega)]; omega
    obtain ⟨S, hS⟩ : ∃ S, S = w.heap.size := ⟨_, rfl⟩
    obtain ⟨W1, hW1⟩ : ∃ W1, W1 = w.alloc (.cells #[.int .i64 N, .slice A n c] 24) := ⟨_, rfl⟩
    have b1 := Blk.new w 24 #[.int .i64 N, .slice A n c]
    rw [← hW1, ← hS] at b1
    have hH1 : Held [r] w W1 := by rw [hW1]; exact (Held.refl [r] w).alloc _
    have hm1 : MapB W1 r kv32 L := by rw [hW1]; exact hm.alloc _
    have hr1 : Els W1 B 3 Ed.cells A es := by rw [hW1]; exact hr.alloc hBw _
    have hz1 : W1.heap.size = S + 1 := by rw [hW1, size_alloc', hS]
    have hrS : r < S := by rw [hS]; exact hm.lt
    have hlook := run_look (P := Tryd.prog) (keyL_u32 Tryd.underlying43) Tryd.underlying46 (z := .int .i64 0) (fun u => by kernel_rfl) hm1 ((x.toNat : Int) * 64 + (k : Int)) true
    have hne : ((k : Int) == (n : Int)) = false := by simp; omega
    have c0 := b1.cell 0
    have c1 := b1.cell 1
    have HREC1 := Lib.hid (ih (k + 1) x W1 L (by omega) hx hr1 (by omega) hm1 hme)
    have HW1 := Lib.hid hW1
    have HS := Lib.hid hS
    have HB1 := Lib.hid b1
    have HH1 := Lib.hid hH1
    have HM1 := Lib.hid hm1
    have HR1 := Lib.hid hr1
    have HME := Lib.hid hme
    have HKEY := Lib.hid hkey
    have HL := Lib.hid hl
    rw [hW1, hS] at c0 c1
    rw [hW1] at hlook
    clear hW1 hS b1 hH1 hm1 hr1 hme hkey hr hm hz1
    cases hgk : getK L ((x.toNat : Int) * 64 + (k : Int)) with
    | some v =>
      have hv := HME.out x.toNat k v (by omega) (by rw [← HKEY.out]; exact hgk)
      subst hv
      rw [hgk] at hlook
      obtain ⟨res, hres⟩ : ∃ res, res = bondK N es x.toNat k := ⟨_, rfl⟩
      rw [← hres] at hlook ⊢
      simp only [Option.getD_some, Option.isSome_some] at hlook
      clear hgk hres
      go_enter Tryd.func22, Tryd.ntmps22
      go_wp2_with fail
      go_ret
      rw [← HW1.out]
      exact ⟨rfl, HH1.out, L, HM1.out, HME.out⟩
    | none =>
      rw [hgk] at hlook
      simp only [Option.getD_none, Option.isSome_none] at hlook
      go_enter Tryd.func22, Tryd.ntmps22
      go_wp2_with fail
      rw [← HW1.out, ← HS.out]
      refine HREC1.out.mono ?_
      clear HREC1 hlook
      rintro e W2 ⟨rfl, hH2, L2, hm2, hme2⟩
      have hrn : S ∉ [r] := by simp; omega
      have b2 := Blk.held hH2 HB1.out hrn
      have hz2 := hH2.size
      have hzS : S < W2.heap.size := b2.lt
      have hr2 : Els W2 B 3 Ed.cells A es := HR1.out.below (hH2.to (by have := HB1.out.lt; omega) (by simp; omega))
      obtain ⟨nb, no, hA, hnb, g0, g1, g2⟩ := hr2.at3 hkl
      obtain ⟨⟨ea, eb, ew⟩, hee⟩ : ∃ e, e = es[k] := ⟨_, rfl⟩
      have hge := hg.ed _ (List.getElem_mem hkl)
      rw [← hee] at g0 g1 g2 hge
      obtain ⟨a0, a1, b0, b1', hab, _, _⟩ := hge
      simp only at a0 a1 b0 b1' hab g0 g1 g2
      obtain ⟨a, rfl⟩ := Int.eq_ofNat_of_zero_le a0
      obtain ⟨b, rfl⟩ := Int.eq_ofNat_of_zero_le b0
      have hdrop : es.drop k = ⟨a, b, ew⟩ :: es.drop (k + 1) := by rw [List.drop_eq_getElem_cons hkl, ← hee]
      obtain ⟨m0, hm0⟩ : ∃ m0, m0 = bondK N es x.toNat (k + 1) := ⟨_, rfl⟩
      rw [← hm0]
      subst hA
      have c0 := b2.cell 0
      have c1 := b2.cell 1
      obtain ⟨W3, hW3⟩ : ∃ W3, W3 = W2.alloc (.cells #[.int .i64 a, .int .i64 b, .int .i64 ew] 52) := ⟨_, rfl⟩
      have b3 := Blk.new W2 52 #[.int .i64 a, .int .i64 b, .int .i64 ew]
      obtain ⟨T, hT⟩ : ∃ T, T = W2.heap.size := ⟨_, rfl⟩
      rw [← hW3, ← hT] at b3
      have x0 := b3.cell 0
      have x1 := b3.cell 1
      have bS3 : Blk W3 S 24 #[.int .i64 N, .slice (some ⟨nb, no, none⟩) n c] := by rw [hW3]; exact b2.alloc _
      have y0 := bS3.cell 0
      have y1 := bS3.cell 1
      have hm3 : MapB W3 r kv32 L2 := by rw [hW3]; exact hm2.alloc _
      have hr3 : Els W3 B 3 Ed.cells (some ⟨nb, no, none⟩) es := by rw [hW3]; exact hr2.alloc (by omega) _
      have hH3 : Held [r] w W3 := by rw [hW3]; exact (HH1.out.then hH2 (by simp)).alloc _
      have hz3 : S ≤ W3.heap.size := by rw [hW3, size_alloc']; omega
      have HW3 := Lib.hid hW3
      have HT := Lib.hid hT
      have HM3 := Lib.hid hm3
      have HR3 := Lib.hid hr3
      have HH3 := Lib.hid hH3
      have HME2 := Lib.hid hme2
      have HM0 := Lib.hid hm0
      have HDROP := Lib.hid hdrop
      clear hH2 b2 hr2 hee hdrop hm0 hW3 hT b3 bS3 hm2 hm3 hr3 hH3 hme2 hgk
      go_wp2_with fail
      rw [← HW3.out, ← HT.out]
      refine (Bit_any x a W3).mono ?_
      rintro e W ⟨rfl, rfl⟩
      cases hba : bitB x a with
      | true =>
        have hres : bondK N es x.toNat k = m0 := by
          rw [HM0.out]
          show bondF (es.drop k) _ = bondF (es.drop (k + 1)) _
          rw [HDROP.out, bondF.eq_def (⟨a, b, ew⟩ :: _)]
          simp only
          rw [if_neg]
          rintro ⟨q1, q2⟩
          rw [nw_toNat, free_bit hN10 x (by omega) (by omega)] at q1 q2
          first | (rw [hba] at q1; simp at q1; done) | (rw [hbb] at q2; simp at q2; done)
        obtain ⟨W9, hput, hm9, hgr9, hsz9⟩ := run_put (P := Tryd.prog) (keyL_u32 Tryd.underlying43) Tryd.underlying46 HM3.out ((x.toNat : Int) * 64 + (k : Int)) (.int .i64 (m0 : Nat))
        have hme9 : MemoK (bondK N es) (putK L2 ((x.toNat : Int) * 64 + (k : Int)) (.int .i64 (m0 : Nat))) := by
          rw [HKEY.out, ← hres]
          exact HME2.out.put (by omega)
        have hH9 : Held [r] w W9 := HH3.out.turned hgr9 (by simp)
        have HM9 := Lib.hid hm9
        have HME9 := Lib.hid hme9
        have HH9 := Lib.hid hH9
        have HRES := Lib.hid hres
        clear hm9 hme9 hH9 hres hgr9 hsz9
        clear hba
        go_wp2_with fail
        go_ret
        exact ⟨by rw [HRES.out]; rfl, HH9.out, _, HM9.out, HME9.out⟩
      | false =>
        go_wp2_with fail
        refine (Bit_any x b W3).mono ?_
        rintro e W ⟨rfl, rfl⟩
        cases hbb : bitB x b with
        | true =>
          have hres : bondK N es x.toNat k = m0 := by
            rw [HM0.out]
            show bondF (es.drop k) _ = bondF (es.drop (k + 1)) _
            rw [HDROP.out, bondF.eq_def (⟨a, b, ew⟩ :: _)]
            simp only
            rw [if_neg]
            rintro ⟨q1, q2⟩
            rw [nw_toNat, free_bit hN10 x (by omega) (by omega)] at q1 q2
            first | (rw [hba] at q1; simp at q1; done) | (rw [hbb] at q2; simp at q2; done)
          obtain ⟨W9, hput, hm9, hgr9, hsz9⟩ := run_put (P := Tryd.prog) (keyL_u32 Tryd.underlying43) Tryd.underlying46 HM3.out ((x.toNat : Int) * 64 + (k : Int)) (.int .i64 (m0 : Nat))
          have hme9 : MemoK (bondK N es) (putK L2 ((x.toNat : Int) * 64 + (k : Int)) (.int .i64 (m0 : Nat))) := by
            rw [HKEY.out, ← hres]
            exact HME2.out.put (by omega)
          have hH9 : Held [r] w W9 := HH3.out.turned hgr9 (by simp)
          have HM9 := Lib.hid hm9
          have HME9 := Lib.hid hme9
          have HH9 := Lib.hid hH9
          have HRES := Lib.hid hres
          clear hm9 hme9 hH9 hres hgr9 hsz9
          clear hba hbb
          go_wp2_with fail
          go_ret
          exact ⟨by rw [HRES.out]; rfl, HH9.out, _, HM9.out, HME9.out⟩
        | false =>
          have hxa : x.getLsbD a = false := by rw [← bitB_nat]; exact hba
          have hxb : x.getLsbD b = false := by rw [← bitB_nat]; exact hbb
          have haN : a < N := by omega
          have hbN : b < N := by omega
          have habn : a ≠ b := by omega
          obtain ⟨z, hz⟩ : ∃ z, z = wAdd (wAdd x (wShl w1 a)) (wShl w1 b) := ⟨_, rfl⟩
          have hfree := free_add hN10 haN hbN habn hxa hxb
          rw [← hz] at hfree
          have hzN : ∀ j, z.getLsbD j = true → j < N := fun j hj => by
            have h1 : (wAdd x (wShl w1 a)).getLsbD b = false := by
              rw [b_add hxa, hxb, b_one]
              simp
              omega
            rw [hz, b_add h1, b_add hxa, b_one, b_one] at hj
            simp at hj
            rcases hj with (h | h) | h
            · exact hx j h
            · omega
            · omega
          have HREC2 := Lib.hid (ih (k + 1) z W3 L2 (by omega) hzN HR3.out (by omega) HM3.out HME2.out)
          have HZ := Lib.hid hz
          have HFREE := Lib.hid hfree
          have HBA := Lib.hid hba
          have HBB := Lib.hid hbb
          clear hba hbb hz hfree hzN
          go_wp2_with fail
          rw [← HZ.out]
          refine HREC2.out.mono ?_
          clear HREC2
          rintro e W5 ⟨rfl, hH5, L5, hm5, hme5⟩
          obtain ⟨m1', hm1'⟩ : ∃ m, m = bondK N es z.toNat (k + 1) := ⟨_, rfl⟩
          rw [← hm1']
          have hb45 : m1' ≤ 45 := by
            rw [hm1']
            have h1 := bond_len (es.drop (k + 1)) (fun j : Int => bitB (freeW N (nw z.toNat)) j)
            rw [List.length_drop] at h1
            exact Nat.le_trans h1 (by have := HL.out; omega)
          have hmax : (bondK N es x.toNat k : Nat) = max m0 (1 + m1') := by
            rw [HM0.out, hm1']
            show bondF (es.drop k) _ = max (bondF (es.drop (k + 1)) _) (1 + bondF (es.drop (k + 1)) _)
            rw [HDROP.out, bondF.eq_def (⟨a, b, ew⟩ :: _)]
            simp only
            rw [nw_toNat, nw_toNat, HFREE.out, if_pos ⟨by rw [free_bit hN10 x (by omega) (by omega), HBA.out]; rfl, by rw [free_bit hN10 x (by omega) (by omega), HBB.out]; rfl⟩]
            rw [bitB_but1 _ b (by omega), bitB_but1 _ a (by omega)]
          have hw1 : IntKind.i64.wrap (1 + (m1' : Int)) = 1 + m1' := IntWalk.i64_in _ (by omega)
          clear hm1'
          by_cases hgt : (m0 : Int) < 1 + m1'
          · have hres : ((bondK N es x.toNat k : Nat) : Int) = 1 + (m1' : Int) := by omega
            clear hmax
            obtain ⟨W9, hput, hm9, hgr9, hsz9⟩ := run_put (P := Tryd.prog) (keyL_u32 Tryd.underlying43) Tryd.underlying46 hm5 ((x.toNat : Int) * 64 + (k : Int)) (.int .i64 (1 + (m1' : Int)))
            have hme9 : MemoK (bondK N es) (putK L5 ((x.toNat : Int) * 64 + (k : Int)) (.int .i64 (1 + (m1' : Int)))) := by
              rw [HKEY.out, ← hres]
              exact hme5.put (by omega)
            have hH9 : Held [r] w W9 := (HH3.out.then hH5 (by simp)).turned hgr9 (by simp)
            have HM9 := Lib.hid hm9
            have HME9 := Lib.hid hme9
            have HH9 := Lib.hid hH9
            have HRES := Lib.hid hres
            clear hm9 hme9 hH9 hres hgr9 hsz9 hm5 hme5 hH5
            go_wp2_with fail
            go_ret
            exact ⟨by rw [HRES.out]; rfl, HH9.out, _, HM9.out, HME9.out⟩
          · have hres : ((bondK N es x.toNat k : Nat) : Int) = (m0 : Int) := by omega
            clear hmax
            obtain ⟨W9, hput, hm9, hgr9, hsz9⟩ := run_put (P := Tryd.prog) (keyL_u32 Tryd.underlying43) Tryd.underlying46 hm5 ((x.toNat : Int) * 64 + (k : Int)) (.int .i64 ((m0 : Int)))
            have hme9 : MemoK (bondK N es) (putK L5 ((x.toNat : Int) * 64 + (k : Int)) (.int .i64 ((m0 : Int)))) := by
              rw [HKEY.out, ← hres]
              exact hme5.put (by omega)
            have hH9 : Held [r] w W9 := (HH3.out.then hH5 (by simp)).turned hgr9 (by simp)
            have HM9 := Lib.hid hm9
            have HME9 := Lib.hid hme9
            have HH9 := Lib.hid hH9
            have HRES := Lib.hid hres
            clear hm9 hme9 hH9 hres hgr9 hsz9 hm5 hme5 hH5
            go_wp2_with fail
            go_ret
            exact ⟨by rw [HRES.out]; rfl, HH9.out, _, HM9.out, HME9.out⟩
end Go.Proofs.YtodbhgbgeiailaaDoor
