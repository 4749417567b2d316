/- All pairings that hold: the program's search, step by step. Conditions: the wishes are good. -/
import Derived.Test.YtodbhgbgeiailaaAllsC
namespace Go.Proofs.Ytodbhgbgeiailaa
open Go.RowKit
attribute [local go_sem ↓] s_and s_or s_but s_and1 s_shr s_shl1
attribute [local go_sem] s_eq0 s_ne0 s_eq1

theorem AllSt.put {w : World} {lo nb wb lb gl ab ob n cl cL cR B : Nat} {AL AR : Option Addr} {ct : List Int} {A5 : Option Addr} {cap5 : Nat} {sls : List (Sls Int)} (had : AllAd B lo nb wb lb gl ab ob) (h : AllSt w lo nb wb lb gl ab ob n cl cL cR AL AR ct A5 cap5 sls) (i : Nat) (v : Int) : AllSt (w.setCell ⟨gl, i, none⟩ (.int .i64 v)) lo nb wb lb gl ab ob n cl cL cR AL AR (ct.set i v) A5 cap5 sls := by
  have far : ∀ {k : Nat} {t : TypeId} {cs : Array Value}, Blk w k t cs → k ≠ gl → Blk (w.setCell ⟨gl, i, none⟩ (.int .i64 v)) k t cs := fun hk hne => hk.far (p := ⟨gl, i, none⟩) hne _
  refine ⟨far h.kn had.ng, far h.kw (h.g.ne h.kw (by decide)), far h.kl (h.g.ne h.kl (by decide)), far h.ka (h.g.ne h.ka (by decide)), far h.ko (h.g.ne h.ko (by decide)), h.g.put i v, h.own.low (p := ⟨gl, i, none⟩) had.lg _, fun s hs => ?_⟩
  · obtain ⟨h1, h2⟩ := h.rows s hs
    refine ⟨?_, h2⟩
    rcases h1 with h | ⟨g, off, cur, hA, hk, hc⟩
    · exact .inl h
    · refine .inr ⟨g, off, cur, hA, far hk (fun e => ?_), hc⟩
      have := h2 g (by rw [hA]; rfl)
      have := had.lg
      omega
theorem bit_zero (x : BitVec 32) (i : Nat) : (wAnd (wShr x i) w1 == w0) = !x.getLsbD i := by
  rw [Bool.eq_iff_iff, beq_iff_eq, Bool.not_eq_true']
  constructor
  · intro h
    have := congrArg (fun y : BitVec 32 => y.getLsbD 0) h
    simp only [b_and, b_shr, b_1, b_0] at this
    simpa using this
  · intro h
    apply BitVec.eq_of_getLsbD_eq
    intro q hq
    rw [b_and, b_shr, b_1, b_0]
    by_cases hq0 : q = 0
    · subst hq0
      simp [h]
    · simp [hq0]
theorem hasB_snoc (l : List Int) (a x : Int) : hasB (l ++ [a]) x = (hasB l x || (x == a)) := by simp [hasB, List.any_append]
/-- How far the way through those that may come next is. -/
def AllsJ (B lo nb wb lb gl ab ob n cl cL cR f : Nat) (AL AR : Option Addr) (L R : List (Sls Int)) (l : List Int) (sls : List (Sls Int)) (w : World) (s9 : Value) (wr : World) : Prop :=
  ∃ (q : Nat) (y : Int) (A6 : Option Addr) (cap6 : Nat) (sls6 : List (Sls Int)), q ≤ n + 1 ∧ s9 = .int .i64 ((q : Int) - 1) ∧ Below B w wr ∧ lo ≤ wr.heap.size ∧ AllSt wr lo nb wb lb gl ab ob n cl cL cR AL AR (l ++ y :: List.replicate f (-1)) A6 cap6 (sls ++ sls6) ∧ sls6.map (fun s => s.l) = (List.range q).flatMap (prgG L R n f l)

set_option maxRecDepth 100000 in
set_option maxHeartbeats 2000000 in
theorem alls_on (lo nb wb lb gl ab ob n cl cL cR B : Nat) (AL AR : Option Addr) (L R : List (Sls Int)) (hL : GoodL n L) (hR : GoodL n R) (had : AllAd B lo nb wb lb gl ab ob) : ∀ (f : Nat) (l : List Int) (m : Nat) (x : BitVec 32) (w : World) (A5 : Option Addr) (cap5 : Nat) (sls : List (Sls Int)), l.length = m → m + f = n → (∀ y ∈ l, -1 ≤ y ∧ y < n) → (∀ j : Nat, j < n → x.getLsbD j = hasB l j) → lo ≤ w.heap.size → WishIn w B AL AR L R → AllSt w lo nb wb lb gl ab ob n cl cL cR AL AR (l ++ List.replicate f (-1)) A5 cap5 sls → sls.length + (n + 1) ^ f ≤ 43046721 →
    Calls Try.prog 70 #[.int .i64 m, .int .i64 (sN x), .pointer (some ⟨nb, 0, none⟩), .pointer (some ⟨wb, 0, none⟩), .pointer (some ⟨lb, 0, none⟩), .pointer (some ⟨ab, 0, none⟩), .pointer (some ⟨ob, 0, none⟩)] w fun e w' => (∃ v, e = .returned v) ∧ Below B w w' ∧ ∃ A6 cap6 sls6, AllSt w' lo nb wb lb gl ab ob n cl cL cR AL AR (l ++ List.replicate f (-1)) A6 cap6 (sls ++ sls6) ∧ sls6.map (fun s => s.l) = prgA L R n f l := by
  have hn8 := hL.n8
  have hBlo : B ≤ lo := by have := had.bn; have := had.ln; omega
  intro f
  induction f with
  | zero =>
    intro l m x w A5 cap5 sls hlm hmf hlx hxb hlo hwi hst hbd
    obtain rfl : m = n := by omega
    rw [List.replicate_zero, List.append_nil] at hst ⊢
    exact alls_end lo nb wb lb gl ab ob m cl cL cR B AL AR L R hL hR had l (.int .i64 (sN x)) w A5 cap5 sls hlm hlx hlo hwi hst hbd
  | succ f ih =>
    intro l m x w A5 cap5 sls hlm hmf hlx hxb hlo hwi hst hbd
    have hmn : m < n := by omega
    have hmne : ((m : Int) == (n : Int)) = false := by simp; omega
    have hwm : IntKind.i64.wrap ((m : Int) + 1) = (m : Int) + 1 := IntWalk.i64_in _ (by omega)
    have cn := hst.kn.cell 0
    rw [List.replicate_succ] at hst ⊢
    have HIH := Lib.hid ih
    have HLM := Lib.hid hlm
    have HLX := Lib.hid hlx
    have HXB := Lib.hid hxb
    have HWI := Lib.hid hwi
    have HST := Lib.hid hst
    have HBD := Lib.hid hbd
    have HAD := Lib.hid had
    clear ih hlm hlx hxb hwi hst hbd had
    go_enter Try.func70, Try.ntmps70
    go_wp2_with fail
    go_loopw [9] (fun s9 wr => AllsJ B lo nb wb lb gl ab ob n cl cL cR f AL AR L R l sls w s9 wr) (fun s9 _ => (n - intOf s9).toNat)
    case atStart => exact ⟨0, -1, A5, cap5, [], Nat.zero_le _, rfl, Below.refl _ _, hlo, by rw [List.append_nil]; exact HST.out, rfl⟩
    case round =>
      clear HST cn
      rename World => wr
      obtain ⟨q, y, A6, cap6, sls6, hq, rfl, hb, hlo2, hst, hmap⟩ := hrel
      have cn := hst.kn.cell 0
      by_cases hqn : q < n + 1
      · have hlt : (q : Int) - 1 < n := by omega
        by_cases hq0 : q = 0
        · subst hq0
          rw [show ((0 : Nat) : Int) - 1 = -1 by omega] at hlt ⊢
          have HG : Hid (prgG L R n f l 0 = prgA L R n f (l ++ [-1])) := Lib.hid (by
            unfold prgG prgJ
            rw [show ((0 : Nat) : Int) - 1 = -1 by omega, decide_eq_true (by omega)]
            simp)
          have hput := hst.put HAD.out m (-1)
          rw [List.set_append_right _ _ (by rw [HLM.out]; exact Nat.le_refl _), HLM.out, Nat.sub_self, List.set_cons_zero] at hput
          have e1 : l ++ (-1) :: List.replicate f (-1) = (l ++ [(-1)]) ++ List.replicate f (-1) := by simp
          rw [e1] at hput
          have cl0 := hst.kl.cell 0
          have cg := hst.g.frozen m
          have cgc : wr.cell? ⟨gl, m, none⟩ = some (.int .i64 y) := by
            rw [hst.g.cell (i := m) (by rw [List.length_append, HLM.out, List.length_cons]; omega)]
            simp [HLM.out]
          have co := hput.ko.cell 0
          have hbJ : Below B w (wr.setCell ⟨gl, m, none⟩ (.int .i64 (-1))) := hb.setCell (p := ⟨gl, m, none⟩) HAD.out.bg _
          have hl6 : sls6.length ≤ 0 * (n + 1) ^ f := by
            have h1 := congrArg List.length hmap
            rw [List.length_map] at h1
            rw [h1]
            exact prgG_len hL hR (by rw [HLM.out]; omega) _
          have hbd2 : (sls ++ sls6).length + (n + 1) ^ f ≤ 43046721 := by
            have h1 := HBD.out
            rw [Nat.pow_succ, Nat.mul_comm] at h1
            have h2 : (0 + 1) * (n + 1) ^ f ≤ (n + 1) * (n + 1) ^ f := Nat.mul_le_mul_right _ (by omega)
            rw [Nat.succ_mul] at h2
            rw [List.length_append]
            omega
          have hrec := HIH.out (l ++ [(-1)]) (m + 1) (x) (wr.setCell ⟨gl, m, none⟩ (.int .i64 (-1))) A6 cap6 (sls ++ sls6) (by rw [List.length_append, HLM.out]; rfl) (by omega) (fun z hz => by
            rcases List.mem_append.1 hz with h | h
            · exact HLX.out z h
            · rw [List.mem_singleton] at h
              omega) (fun j hj => by
              rw [HXB.out j hj, hasB_snoc]
              have : ((j : Int) == -1) = false := by first | (simp; done) | (simp; omega)
              rw [this, Bool.or_false]) (by simp only [World.size_setCell]; exact hlo2) (HWI.out.below hbJ) hput hbd2
          have HREC := Lib.hid hrec
          have HBJ := Lib.hid hbJ
          have HMAP := Lib.hid hmap
          have HLO2 := Lib.hid hlo2
          clear hrec hbJ hmap hput e1 hst hb hl6 hbd2
          go_wp2_with fail
          refine HREC.out.mono ?_
          clear HREC
          rintro e W8 ⟨⟨v8, rfl⟩, hb8, A8, cap8, sls8, hst8, hmap8⟩
          have e2 : (l ++ [(-1)]) ++ List.replicate f (-1) = l ++ (-1) :: List.replicate f (-1) := by simp
          rw [e2, List.append_assoc] at hst8
          have HST8 := Lib.hid hst8
          have HB8 := Lib.hid (HBJ.out.trans hb8)
          have HM8 : Hid ((sls6 ++ sls8).map (fun s => s.l) = (List.range (0 + 1)).flatMap (prgG L R n f l)) := Lib.hid (by rw [List.map_append, HMAP.out, hmap8, flat_succ _ (0), HG.out])
          have HL8 : Hid (lo ≤ W8.heap.size) := Lib.hid (by have h1 := hb8.size; simp only [World.size_setCell] at h1; exact Nat.le_trans HLO2.out h1)
          clear hb8 hst8 hmap8 e2 co cn cl0 cg cgc
          go_wp2_with fail
          go_roundw
          case rel => exact ⟨0 + 1, (-1), A8, cap8, sls6 ++ sls8, by omega, by first | rfl | (simp; done) | (simp; omega), HB8.out, HL8.out, HST8.out, HM8.out⟩
          case measure => first | (simp [intOf]; done) | (simp [intOf]; omega)
        · obtain ⟨i, rfl⟩ : ∃ i, q = i + 1 := ⟨q - 1, by omega⟩
          have hqi : ((i + 1 : Nat) : Int) - 1 = (i : Int) := by omega
          rw [hqi] at hlt ⊢
          have hiN : i < n := by omega
          have hi0 : ¬ (i : Int) < 0 := by omega
          have hi00 : (0 : Int) ≤ (i : Int) := by omega
          have hi32 : (i : Int) < 32 := by omega
          have hti : ((i : Int)).toNat = i := by simp
          have hbit : (wAnd (wShr x i) w1 == w0) = !hasB l (i : Int) := by rw [shr_and0, HXB.out i hiN]
          have cw0 := hst.kw.cell 0
          cases h1 : hasB l (i : Int) with
          | true =>
            rw [h1] at hbit
            have HSK : Hid (prgG L R n f l (i + 1) = []) := Lib.hid (by
              unfold prgG prgJ
              rw [hqi, HLM.out, decide_eq_false (show ¬ (i : Int) < 0 by omega), h1]
              simp)
            have HST := Lib.hid hst
            have HB := Lib.hid hb
            have HMAP := Lib.hid hmap
            clear hst hb hmap h1 hqi
            go_wp2_with fail
            go_roundw
            case rel => exact ⟨i + 1 + 1, y, A6, cap6, sls6, by omega, by first | rfl | (simp; done) | (simp; omega), HB.out, hlo2, HST.out, by rw [HMAP.out, flat_succ _ (i + 1), HSK.out, List.append_nil]⟩
            case measure => first | (simp [intOf]; done) | (simp [intOf]; omega)
          | false =>
            rw [h1] at hbit
            have hwiW := HWI.out.below hb
            obtain ⟨bl, ol, As, cs, hAL, gL, hls, hlen⟩ := side_at hwiW.l hwiW.gl (i := m) (by rw [hL.len]; exact hmn)
            have HCN := Lib.hid (Contains_ints (i : Int) As (ls L m).length cs (ls L m) B wr rfl hlen hls)
            have hl8 := hL.l8 m
            subst hAL
            have H1 := Lib.hid h1
            have HQI := Lib.hid hqi
            clear h1 hwiW hls hlen hqi
            go_wp2_with fail
            refine HCN.out.mono ?_
            clear HCN
            rintro e W ⟨rfl, rfl⟩
            have hqi := HQI.out
            cases h2 : hasB (ls L m) (i : Int) with
            | false =>
              have HSK : Hid (prgG L R n f l (i + 1) = []) := Lib.hid (by
                unfold prgG prgJ
                rw [hqi, HLM.out, decide_eq_false (show ¬ (i : Int) < 0 by omega), H1.out, h2]
                simp)
              have HST := Lib.hid hst
              have HB := Lib.hid hb
              have HMAP := Lib.hid hmap
              clear hst hb hmap h2 hqi cw0 gL
              go_wp2_with fail
              go_roundw
              case rel => exact ⟨i + 1 + 1, y, A6, cap6, sls6, by omega, by first | rfl | (simp; done) | (simp; omega), HB.out, hlo2, HST.out, by rw [HMAP.out, flat_succ _ (i + 1), HSK.out, List.append_nil]⟩
              case measure => first | (simp [intOf]; done) | (simp [intOf]; omega)
            | true =>
              have HG : Hid (prgG L R n f l (i + 1) = prgA L R n f (l ++ [(i : Int)])) := Lib.hid (by
                unfold prgG prgJ
                rw [hqi, HLM.out, decide_eq_false (show ¬ (i : Int) < 0 by omega), H1.out, h2]
                simp)
              clear h2 hqi
              have hput := hst.put HAD.out m ((i : Int))
              rw [List.set_append_right _ _ (by rw [HLM.out]; exact Nat.le_refl _), HLM.out, Nat.sub_self, List.set_cons_zero] at hput
              have e1 : l ++ ((i : Int)) :: List.replicate f (-1) = (l ++ [((i : Int))]) ++ List.replicate f (-1) := by simp
              rw [e1] at hput
              have cl0 := hst.kl.cell 0
              have cg := hst.g.frozen m
              have cgc : wr.cell? ⟨gl, m, none⟩ = some (.int .i64 y) := by
                rw [hst.g.cell (i := m) (by rw [List.length_append, HLM.out, List.length_cons]; omega)]
                simp [HLM.out]
              have co := hput.ko.cell 0
              have hbJ : Below B w (wr.setCell ⟨gl, m, none⟩ (.int .i64 ((i : Int)))) := hb.setCell (p := ⟨gl, m, none⟩) HAD.out.bg _
              have hl6 : sls6.length ≤ (i + 1) * (n + 1) ^ f := by
                have h1 := congrArg List.length hmap
                rw [List.length_map] at h1
                rw [h1]
                exact prgG_len hL hR (by rw [HLM.out]; omega) _
              have hbd2 : (sls ++ sls6).length + (n + 1) ^ f ≤ 43046721 := by
                have h1 := HBD.out
                rw [Nat.pow_succ, Nat.mul_comm] at h1
                have h2 : ((i + 1) + 1) * (n + 1) ^ f ≤ (n + 1) * (n + 1) ^ f := Nat.mul_le_mul_right _ (by omega)
                rw [Nat.succ_mul] at h2
                rw [List.length_append]
                omega
              have hrec := HIH.out (l ++ [((i : Int))]) (m + 1) (wOr x (wShl w1 i)) (wr.setCell ⟨gl, m, none⟩ (.int .i64 ((i : Int)))) A6 cap6 (sls ++ sls6) (by rw [List.length_append, HLM.out]; rfl) (by omega) (fun z hz => by
                rcases List.mem_append.1 hz with h | h
                · exact HLX.out z h
                · rw [List.mem_singleton] at h
                  omega) (fun j hj => by
                  rw [b_or, b_one, HXB.out j hj, hasB_snoc]
                  have : decide (j < 32) = true := decide_eq_true (by omega)
                  rw [this, Bool.true_and]
                  congr 1
                  rw [Bool.eq_iff_iff, decide_eq_true_iff, beq_iff_eq]
                  omega) (by simp only [World.size_setCell]; exact hlo2) (HWI.out.below hbJ) hput hbd2
              have HREC := Lib.hid hrec
              have HBJ := Lib.hid hbJ
              have HMAP := Lib.hid hmap
              have HLO2 := Lib.hid hlo2
              clear hrec hbJ hmap hput e1 hst hb hl6 hbd2
              go_wp2_with fail
              refine HREC.out.mono ?_
              clear HREC
              rintro e W8 ⟨⟨v8, rfl⟩, hb8, A8, cap8, sls8, hst8, hmap8⟩
              have e2 : (l ++ [((i : Int))]) ++ List.replicate f (-1) = l ++ ((i : Int)) :: List.replicate f (-1) := by simp
              rw [e2, List.append_assoc] at hst8
              have HST8 := Lib.hid hst8
              have HB8 := Lib.hid (HBJ.out.trans hb8)
              have HM8 : Hid ((sls6 ++ sls8).map (fun s => s.l) = (List.range ((i + 1) + 1)).flatMap (prgG L R n f l)) := Lib.hid (by rw [List.map_append, HMAP.out, hmap8, flat_succ _ ((i + 1)), HG.out])
              have HL8 : Hid (lo ≤ W8.heap.size) := Lib.hid (by have h1 := hb8.size; simp only [World.size_setCell] at h1; exact Nat.le_trans HLO2.out h1)
              clear hb8 hst8 hmap8 e2 co cn cl0 cg cgc
              go_wp2_with fail
              go_roundw
              case rel => exact ⟨(i + 1) + 1, ((i : Int)), A8, cap8, sls6 ++ sls8, by omega, by first | rfl | (simp; done) | (simp; omega), HB8.out, HL8.out, HST8.out, HM8.out⟩
              case measure => first | (simp [intOf]; done) | (simp [intOf]; omega)
      · obtain rfl : q = n + 1 := by omega
        have hlt : ¬ ((n + 1 : Nat) : Int) - 1 < n := by omega
        have hput := hst.put HAD.out m (-1)
        rw [List.set_append_right _ _ (by rw [HLM.out]; exact Nat.le_refl _), HLM.out, Nat.sub_self, List.set_cons_zero] at hput
        have cl0 := hst.kl.cell 0
        have cg := hst.g.frozen m
        have cgc : wr.cell? ⟨gl, m, none⟩ = some (.int .i64 y) := by
          rw [hst.g.cell (i := m) (by rw [List.length_append, HLM.out, List.length_cons]; omega)]
          simp [HLM.out]
        have HPUT := Lib.hid hput
        have HB := Lib.hid (hb.setCell (p := ⟨gl, m, none⟩) HAD.out.bg (.int .i64 (-1)))
        have HMAP := Lib.hid hmap
        clear hput hst hb hmap
        go_wp2_with fail
        go_end0
        exact ⟨⟨_, rfl⟩, HB.out, A6, cap6, sls6, HPUT.out, HMAP.out⟩
end Go.Proofs.Ytodbhgbgeiailaa
