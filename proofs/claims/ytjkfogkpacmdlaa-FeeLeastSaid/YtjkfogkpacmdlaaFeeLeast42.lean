/- The smallest cut: the two walks. Conditions: the arcs read as a list; the net and the nodes are right. -/
import Derived.Test.YtjkfogkpacmdlaaFeeLeast7
import Derived.Test.YtjkfogkpacmdlaaFeeLeast41
import Derived.Test.YtjkfogkpacmdlaaFeeLeast2
namespace Go.Proofs.Ytjkfogkpacmdlaa
open Go.RowKit
attribute [local go_sem ↓] w_and w_or w_xor w_andNot w_and1 w_and255 w_xor1 w_or0 w_shl w_shl1 w_shr w_sub w_add w_sub1 w_add1
attribute [local go_sem] w_eq0 w_ne0 w_eq1 w_eq w_ne

/-- Word k has a of two nodes, not b. -/
def cutOk (a b k : Nat) : Bool := bitB (nw k) a && !bitB (nw k) b
/-- b0 is the best of the cuts of which R holds. -/
def BestCut (l : List Arc) (a b : Nat) (R : Nat → Prop) (b0 : Nat) : Prop :=
  R b0 ∧ cutOk a b b0 = true ∧ ∀ k, R k → cutOk a b k = true → cutSum (nw b0) l < cutSum (nw k) l ∨ (cutSum (nw b0) l = cutSum (nw k) l ∧ b0 ≤ k)
theorem BestCut.unique {l : List Arc} {a b : Nat} {R : Nat → Prop} {x y : Nat} (h : BestCut l a b R x) (h' : BestCut l a b R y) : x = y := by
  have h1 := h.2.2 y h'.1 h'.2.1
  have h2 := h'.2.2 x h.1 h.2.1
  omega
theorem BestCut.same {l : List Arc} {a b : Nat} {R R' : Nat → Prop} {x : Nat} (h : BestCut l a b R x) (hR : ∀ k, cutOk a b k = true → (R k ↔ R' k)) : BestCut l a b R' x :=
  ⟨(hR x h.2.1).1 h.1, h.2.1, fun k hk hc => h.2.2 k ((hR k hc).2 hk) hc⟩
theorem nw_one (a : Nat) (ha : a < 32) : wShl w1 a = nw (2 ^ a) := by
  apply BitVec.eq_of_toNat_eq
  rw [wN_shl1 ha]
  unfold nw
  rw [BitVec.toNat_ofNat, Nat.mod_eq_of_lt]
  exact Nat.pow_lt_pow_right (by omega) ha
theorem cutOk_one (a b : Nat) (ha : a < 32) (hab : a ≠ b) : cutOk a b (2 ^ a) = true := by
  unfold cutOk
  rw [← nw_one a ha, bitB_nat, bitB_nat, b_one, b_one]
  simp [ha]
  omega
theorem cutOk_zero (a b : Nat) : cutOk a b 0 = false := by
  unfold cutOk
  have : nw 0 = w0 := rfl
  rw [this, bitB_nat, b_0]
  rfl
theorem shr_bit (x : BitVec 32) (i : Nat) : (wAnd (wShr x i) w1 == w1) = bitB x i := by
  rw [bitB_nat, Bool.eq_iff_iff, beq_iff_eq]
  constructor
  · intro h
    have := congrArg (fun v => v.getLsbD 0) h
    simp only [b_and, b_shr, b_1, Nat.add_zero, decide_true, Bool.and_true] at this
    exact this
  · intro h
    apply w_ext
    intro m _
    rw [b_and, b_shr, b_1]
    by_cases hm : m = 0
    · subst hm
      simpa using h
    · simp [hm]
theorem nw_pred (k : Nat) : wSub (nw (k + 1)) w1 = nw k := by
  rw [← nw_succ]
  exact BitVec.add_sub_cancel _ _
theorem nw_last (N : Nat) (h : N < 32) : wSub (wShl w1 N) w1 = nw (2 ^ N - 1) := by
  have : 0 < 2 ^ N := Nat.two_pow_pos N
  obtain ⟨q, hq⟩ : ∃ q, 2 ^ N = q + 1 := ⟨2 ^ N - 1, by omega⟩
  rw [nw_one N h, hq, nw_pred]
  rfl
/-- Where the way up has come to. -/
def CutInv (l : List Arc) (a b k : Nat) (bw : BitVec 32) (le : Int) : Prop :=
  (le = -1 ∧ ∀ j, j < k → cutOk a b j = false) ∨ ∃ b0, bw = nw b0 ∧ le = cutSum (nw b0) l ∧ BestCut l a b (· < k) b0
theorem CutInv.skip {l : List Arc} {a b k : Nat} {bw : BitVec 32} {le : Int} (h : CutInv l a b k bw le) (hk : cutOk a b k = false) : CutInv l a b (k + 1) bw le := by
  rcases h with ⟨h1, h2⟩ | ⟨b0, h1, h2, h3⟩
  · refine .inl ⟨h1, fun j hj => ?_⟩
    by_cases hjk : j = k
    · rw [hjk]; exact hk
    · exact h2 j (by omega)
  · refine .inr ⟨b0, h1, h2, by have := h3.1; omega, h3.2.1, fun j hj hc => ?_⟩
    have hjk : j ≠ k := by
      rintro rfl
      rw [hk] at hc
      cases hc
    exact h3.2.2 j (by omega) hc
theorem CutInv.take_ {l : List Arc} {a b k : Nat} {bw : BitVec 32} {le : Int} (h : CutInv l a b k bw le) (hk : cutOk a b k = true) (hle : le < 0 ∨ cutSum (nw k) l < le) (hp : ∀ j, 0 ≤ cutSum (nw j) l) : CutInv l a b (k + 1) (nw k) (cutSum (nw k) l) := by
  refine .inr ⟨k, rfl, rfl, by omega, hk, fun j hj hc => ?_⟩
  by_cases hjk : j = k
  · subst hjk; exact .inr ⟨rfl, Nat.le_refl _⟩
  · rcases h with ⟨h1, h2⟩ | ⟨b0, h1, h2, h3⟩
    · rw [h2 j (by omega)] at hc; cases hc
    · have := h3.2.2 j (show j < k by omega) hc
      have := hp b0
      omega
theorem CutInv.keep {l : List Arc} {a b k : Nat} {bw : BitVec 32} {le : Int} (h : CutInv l a b k bw le) (hle : ¬ le < 0) (hle2 : ¬ cutSum (nw k) l < le) : CutInv l a b (k + 1) bw le := by
  rcases h with ⟨h1, h2⟩ | ⟨b0, h1, h2, h3⟩
  · omega
  · refine .inr ⟨b0, h1, h2, by have := h3.1; omega, h3.2.1, fun j hj hc => ?_⟩
    by_cases hjk : j = k
    · subst hjk
      have := h3.1
      omega
    · exact h3.2.2 j (by omega) hc
theorem CutInv.le_ {l : List Arc} {a b k : Nat} {bw : BitVec 32} {le : Int} (h : CutInv l a b k bw le) (hb : ∀ j, 0 ≤ cutSum (nw j) l ∧ cutSum (nw j) l ≤ 100000000) : -1 ≤ le ∧ le ≤ 100000000 := by
  rcases h with ⟨h1, _⟩ | ⟨b0, _, h2, _⟩
  · omega
  · have := hb b0
    omega

set_option maxRecDepth 100000 in
set_option maxHeartbeats 2000000 in
theorem ref_Cut (N a b : Nat) (A : Option Addr) (n c : Nat) (l : List Arc) (w : World) (hl : l.length = n) (hok : NetOk N l) (ha : a < N) (hb : b < N) (hab : a ≠ b) (hr : Els w w.heap.size 4 Arc.cells A l) :
    Calls Try.prog 14 #[.agg #[.int .i64 N, .slice A n c], .int .i64 a, .int .i64 b] w fun e w' => Below w.heap.size w w' ∧ ∃ b0, BestCut l a b (· < 2 ^ N) b0 ∧ e = .returned (.tuple #[.int .u32 (wN (nw b0)), .int .i64 (cutSum (nw b0) l)]) := by
  have hN10 := hok.small
  have HB0 := Lib.hid ((Below.refl w.heap.size w).alloc (Nat.le_refl _) (.cells #[.int .i64 N, .slice A n c] 39))
  have HK := Lib.hid (Blk.new w 39 #[.int .i64 N, .slice A n c])
  have HL := Lib.hid hl
  have HOK := Lib.hid hok
  have hpos : ∀ j, 0 ≤ cutSum (nw j) l ∧ cutSum (nw j) l ≤ 100000000 := fun j => by
    have := cutSum_bounds (nw j) l fun a ha => by have := hok.arcs a ha; omega
    have := hok.few
    omega
  have HP := Lib.hid hpos
  have hp1024 : 2 ^ N ≤ 1024 := Nat.pow_le_pow_right (show 0 < 2 by omega) hN10
  have hpa : 2 ^ a < 2 ^ N := Nat.pow_lt_pow_right (by omega) ha
  have hone := cutOk_one a b (by omega) hab
  have hst1 : wShl w1 a = nw (2 ^ a) := nw_one a (by omega)
  have hst2 : wSub (wShl w1 N) w1 = nw (2 ^ N - 1) := nw_last N (by omega)
  obtain ⟨P, hP⟩ : ∃ P, P = 2 ^ N := ⟨_, rfl⟩
  obtain ⟨p, hp⟩ : ∃ p, p = 2 ^ a := ⟨_, rfl⟩
  rw [← hP] at hp1024 hpa hst2 ⊢
  rw [← hp] at hpa hone hst1
  have hcs : ∀ (v : World) (x : BitVec 32), Below w.heap.size w v → Calls Try.prog 35 #[.agg #[.int .i64 N, .slice A n c], .int .u32 (wN x)] v fun e w' => e = .returned (.int .i64 (cutSum x l)) ∧ Below v.heap.size v w' := fun v x hv =>
    ref_CutSize N x A n c l v hl hok ((hr.below hv).more hv.size)
  have HCS := Lib.hid hcs
  have HONE := Lib.hid hone
  clear hl hok hpos hP hp hcs hr hone
  go_enter Try.func14, Try.ntmps14
  go_wp2_with fail
  refine (HCS.out _ _ HB0.out).mono ?_
  rintro e v1 ⟨rfl, hb1⟩
  have HB1 := Lib.hid (HB0.out.trans (hb1.mono HB0.out.size))
  have hblk1 := HK.out.below hb1 HK.out.lt
  have c0 := hblk1.cell 0
  have c1 := hblk1.cell 1
  have HBK := Lib.hid hblk1
  have hz1 := HB1.out.size
  clear hb1 hblk1 HB0 HK
  go_wp2_with fail
  go_loopw [10, 8, 9] (fun i bv lv wr => ∃ (k b0 : Nat), k < P ∧ b0 < P ∧ i = .int .u32 (wN (nw k)) ∧ bv = .int .u32 (wN (nw b0)) ∧ lv = .int .i64 (cutSum (nw b0) l) ∧ Below w.heap.size w wr ∧ Blk wr w.heap.size 39 #[.int .i64 N, .slice A n c] ∧ BestCut l a b (fun j => j < P ∧ (k < j ∨ j = p)) b0) (fun i _ _ _ => (intOf i).toNat)
  case atStart => exact ⟨P - 1, p, by omega, hpa, rfl, rfl, rfl, HB1.out, HBK.out, ⟨hpa, .inr rfl⟩, HONE.out, fun j hj _ => by
    have hjp : j = p := by omega
    subst hjp
    exact .inr ⟨rfl, Nat.le_refl _⟩⟩
  case round =>
    rename World => wr
    clear HB1 HBK c0 c1 hst1 hst2
    obtain ⟨k, b0, hk, hb0, rfl, rfl, rfl, hbl, hblk, hinv⟩ := hrel
    have hsz := hbl.size
    have c0 := hblk.cell 0
    have c1 := hblk.cell 1
    have HBL := Lib.hid hbl
    have HBK := Lib.hid hblk
    have HI := Lib.hid hinv
    have hkw := wN_nw (k := k) (by omega)
    have hbw := wN_nw (k := b0) (by omega)
    clear hbl hblk hinv
    by_cases hlt : 0 < k
    · obtain ⟨q, rfl⟩ : ∃ q, k = q + 1 := ⟨k - 1, by omega⟩
      have hpred := nw_pred q
      have hqw := wN_nw (k := q) (by omega)
      have hcs := HCS.out
      obtain ⟨x, hx⟩ : ∃ x, x = nw (q + 1) := ⟨_, rfl⟩
      have hok : cutOk a b (q + 1) = (bitB x a && !bitB x b) := by unfold cutOk; rw [← hx]
      have hzx : cutSum x l = cutSum (nw (q + 1)) l := by rw [hx]
      obtain ⟨y, hy⟩ : ∃ y, y = nw b0 := ⟨_, rfl⟩
      have hzy : cutSum y l = cutSum (nw b0) l := by rw [hy]
      rw [← hx] at hkw hpred ⊢
      rw [← hy] at hbw ⊢
      have hposx : 0 < wN x := by rw [hkw]; omega
      have hltxy : wN x < wN y ↔ q + 1 < b0 := by rw [hkw, hbw]; omega
      have hb1 := HP.out (q + 1)
      have hb2 := HP.out b0
      rw [← hzx] at hb1
      rw [← hzy] at hb2
      have hB : BestCut l a b (fun j => j < P ∧ (q + 1 < j ∨ j = p)) b0 := HI.out
      -- what stands behind a round
      have hskip : (cutOk a b (q + 1) = false ∨ cutSum y l < cutSum x l ∨ (cutSum y l = cutSum x l ∧ ¬ q + 1 < b0)) → BestCut l a b (fun j => j < P ∧ (q < j ∨ j = p)) b0 := by
        intro h
        have h1 : b0 < P ∧ (q + 1 < b0 ∨ b0 = p) := hB.1
        refine ⟨⟨h1.1, by omega⟩, hB.2.1, fun j hj hc => ?_⟩
        by_cases hjq : j = q + 1
        · subst hjq
          rcases h with h | h | h
          · rw [h] at hc; cases hc
          · left; rw [← hzx, ← hzy]; exact h
          · right; rw [← hzx, ← hzy]; exact ⟨h.1, by omega⟩
        · exact hB.2.2 j ⟨hj.1, by omega⟩ hc
      have htake : cutOk a b (q + 1) = true → (cutSum x l < cutSum y l ∨ (cutSum x l = cutSum y l ∧ q + 1 < b0)) → BestCut l a b (fun j => j < P ∧ (q < j ∨ j = p)) (q + 1) := by
        intro hc0 h
        refine ⟨⟨by omega, by omega⟩, hc0, fun j hj hc => ?_⟩
        by_cases hjq : j = q + 1
        · subst hjq; exact .inr ⟨rfl, Nat.le_refl _⟩
        · have := hB.2.2 j ⟨hj.1, by omega⟩ hc
          rw [← hzx]
          rw [← hzy] at this
          omega
      have HX := Lib.hid hx
      have HY := Lib.hid hy
      have HQ := Lib.hid hkw
      have HQ1 := Lib.hid hqw
      have HPR := Lib.hid hpred
      have HC := Lib.hid hok
      have HSK := Lib.hid hskip
      have HTA := Lib.hid htake
      have HLT := Lib.hid hltxy
      have HZX := Lib.hid hzx
      have HZY := Lib.hid hzy
      clear hx hy hkw hqw hpred hok hskip htake hltxy hzx hzy hbw hcs hB
      obtain ⟨zx, hzx⟩ : ∃ z, z = cutSum x l := ⟨_, rfl⟩
      obtain ⟨zy, hzy⟩ : ∃ z, z = cutSum y l := ⟨_, rfl⟩
      have HA := Lib.hid hzx
      have HB := Lib.hid hzy
      rw [← hzx] at hb1
      rw [← hzy] at hb2 ⊢
      clear hzx hzy
      rcases q1 : bitB x a with _ | _
      · have HS2 := Lib.hid (HSK.out (.inl (by rw [HC.out, q1]; rfl)))
        have H1 := Lib.hid q1
        clear q1
        go_wp2_with fail
        refine (Bit_any x a _).mono ?_
        rintro e w' ⟨rfl, rfl⟩
        rw [H1.out]
        go_wp2_with fail
        go_roundw
        case rel => exact ⟨q, b0, by omega, hb0, by rw [HPR.out], by rw [HY.out], by rw [HB.out, HY.out], HBL.out, HBK.out, HS2.out⟩
        case measure =>
          rw [HPR.out]
          simp [intOf]
          rw [HQ.out, HQ1.out]
          omega
      · rcases q2 : bitB x b with _ | _
        · have hc0 : cutOk a b (q + 1) = true := by rw [HC.out, q1, q2]; rfl
          have HC0 := Lib.hid hc0
          have H1 := Lib.hid q1
          have H2 := Lib.hid q2
          clear q1 q2 hc0
          go_wp2_with fail
          refine (Bit_any x a _).mono ?_
          rintro e w' ⟨rfl, rfl⟩
          rw [H1.out]
          go_wp2_with fail
          refine (Bit_any x b _).mono ?_
          rintro e w' ⟨rfl, rfl⟩
          rw [H2.out]
          go_wp2_with fail
          refine (HCS.out _ x HBL.out).mono ?_
          rintro e v2 ⟨rfl, hv2⟩
          have HB2 := Lib.hid (HBL.out.trans (hv2.mono hsz))
          have HK2 := Lib.hid (HBK.out.below hv2 HBK.out.lt)
          have hsz2 := HB2.out.size
          have c0 := HK2.out.cell 0
          have c1 := HK2.out.cell 1
          rw [← HA.out]
          clear hv2
          by_cases t1 : zx < zy
          · have HT := Lib.hid (HTA.out HC0.out (.inl (by rw [← HA.out, ← HB.out]; exact t1)))
            go_wp2_with fail
            refine (HCS.out _ x HB2.out).mono ?_
            rintro e v3 ⟨rfl, hv3⟩
            have HB3 := Lib.hid (HB2.out.trans (hv3.mono hsz2))
            have HK3 := Lib.hid (HK2.out.below hv3 HK2.out.lt)
            rw [← HA.out]
            clear hv3
            go_wp2_with fail
            go_roundw
            case rel => exact ⟨q, q + 1, by omega, by omega, by rw [HPR.out], by rw [HX.out], by rw [HA.out, HX.out], HB3.out, HK3.out, HT.out⟩
            case measure =>
              rw [HPR.out]
              simp [intOf]
              rw [HQ.out, HQ1.out]
              omega
          · go_wp2_with fail
            refine (HCS.out _ x HB2.out).mono ?_
            rintro e v3 ⟨rfl, hv3⟩
            have HB3 := Lib.hid (HB2.out.trans (hv3.mono hsz2))
            have HK3 := Lib.hid (HK2.out.below hv3 HK2.out.lt)
            have hsz3 := HB3.out.size
            have c0 := HK3.out.cell 0
            have c1 := HK3.out.cell 1
            rw [← HA.out]
            clear hv3
            by_cases t2 : zx = zy
            · have t2' : (zx == zy) = true := by simpa using t2
              have HT2 := Lib.hid t2
              clear t2
              by_cases t3 : wN x < wN y
              · have HT := Lib.hid (HTA.out HC0.out (.inr ⟨by rw [← HA.out, ← HB.out]; exact HT2.out, HLT.out.1 t3⟩))
                go_wp2_with fail
                refine (HCS.out _ x HB3.out).mono ?_
                rintro e v4 ⟨rfl, hv4⟩
                have HB4 := Lib.hid (HB3.out.trans (hv4.mono hsz3))
                have HK4 := Lib.hid (HK3.out.below hv4 HK3.out.lt)
                rw [← HA.out]
                clear hv4
                go_wp2_with fail
                go_roundw
                case rel => exact ⟨q, q + 1, by omega, by omega, by rw [HPR.out], by rw [HX.out], by rw [HA.out, HX.out], HB4.out, HK4.out, HT.out⟩
                case measure =>
                  rw [HPR.out]
                  simp [intOf]
                  rw [HQ.out, HQ1.out]
                  omega
              · have HS2 := Lib.hid (HSK.out (.inr (.inr ⟨by rw [← HA.out, ← HB.out]; exact HT2.out.symm, fun h => t3 (HLT.out.2 h)⟩)))
                go_wp2_with fail
                go_roundw
                case rel => exact ⟨q, b0, by omega, hb0, by rw [HPR.out], by rw [HY.out], by rw [HB.out, HY.out], HB3.out, HK3.out, HS2.out⟩
                case measure =>
                  rw [HPR.out]
                  simp [intOf]
                  rw [HQ.out, HQ1.out]
                  omega
            · have t2' : (zx == zy) = false := by simpa using t2
              have HS2 := Lib.hid (HSK.out (.inr (.inl (by rw [← HA.out, ← HB.out]; omega))))
              clear t2
              go_wp2_with fail
              go_roundw
              case rel => exact ⟨q, b0, by omega, hb0, by rw [HPR.out], by rw [HY.out], by rw [HB.out, HY.out], HB3.out, HK3.out, HS2.out⟩
              case measure =>
                rw [HPR.out]
                simp [intOf]
                rw [HQ.out, HQ1.out]
                omega
        · have HS2 := Lib.hid (HSK.out (.inl (by rw [HC.out, q1, q2]; rfl)))
          have H1 := Lib.hid q1
          have H2 := Lib.hid q2
          clear q1 q2
          go_wp2_with fail
          refine (Bit_any x a _).mono ?_
          rintro e w' ⟨rfl, rfl⟩
          rw [H1.out]
          go_wp2_with fail
          refine (Bit_any x b _).mono ?_
          rintro e w' ⟨rfl, rfl⟩
          rw [H2.out]
          go_wp2_with fail
          go_roundw
          case rel => exact ⟨q, b0, by omega, hb0, by rw [HPR.out], by rw [HY.out], by rw [HB.out, HY.out], HBL.out, HBK.out, HS2.out⟩
          case measure =>
            rw [HPR.out]
            simp [intOf]
            rw [HQ.out, HQ1.out]
            omega
    · obtain rfl : k = 0 := by omega
      have hge : ¬ 0 < wN (nw 0) := by rw [hkw]; omega
      have HBEST : Hid (BestCut l a b (· < P) b0) := HI.out.same fun j hc => ⟨fun h => h.1, fun h => ⟨h, by
        rcases Nat.eq_zero_or_pos j with rfl | h0
        · rw [cutOk_zero] at hc; cases hc
        · exact .inl h0⟩⟩
      clear hkw hbw
      go_wp2_with fail
      go_ret2
      exact ⟨HBL.out, b0, HBEST.out, rfl⟩
end Go.Proofs.Ytjkfogkpacmdlaa
