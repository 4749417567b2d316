/- Can it be had cheaper: the reference's table. Conditions: the net may be; what goes reads as a list. -/
import Derived.Test.YtjkfogkpacmdlaaFeeLeast15
import Derived.BigQuiet
import Derived.BigRegion
import Derived.Deep.CutRange
namespace Go.Proofs.Ytjkfogkpacmdlaa
open Go.RowKit

def cheapM (l : List Arc) (gs : List Int) (k : Nat) : Mtx := (stepsS l gs k).foldl stepMz zeroM
theorem own_blk {α : Type} {X : World} {B c cap g S : Nat} {e t : TypeId} {f : α → List Value} {l : List α} {cs : Array Value} (h : Own X B e c f (some ⟨g, 0, none⟩) cap l) (hb : Blk X S t cs) (hne : e ≠ t) : g ≠ S := by
  rcases h.2.2 with ⟨hv, _⟩ | ⟨g', cp, cur, hv, _, hh, _⟩
  · cases hv
  · injection hv with hv
    injection hv with hv
    injection hv with hv
    subst hv
    intro e'
    subst e'
    unfold Blk at hb
    rw [hh] at hb
    simp at hb
    exact hne hb.2
theorem Mat.drew1 {W : World} {B N c : Nat} {A : Option Addr} {P : List (Nat × Nat)} {M : Nat → Nat → Int} (h : Mat W B N A c P M) : Mat W.drew B N A c P M :=
  ⟨h.out.drew, fun i hi => (h.row i hi).drew, h.ne⟩
theorem cheapM_succ (l : List Arc) (gs : List Int) (k : Nat) : cheapM l gs (k + 1) = stepMz (cheapM l gs k) (stS l gs k) := by
  unfold cheapM
  rw [stepsS_succ, List.foldl_append]
  rfl
theorem stS_fwd (l : List Arc) (gs : List Int) (k : Nat) {f t : Nat} (hf : (l.getD k arc0).f = f) (ht : (l.getD k arc0).t = t) : stS l gs (2 * k) = (decide (0 < (l.getD k arc0).m - gs.getD k 0), ⟨f, t, (l.getD k arc0).e⟩) := by
  unfold stS
  rw [show 2 * k / 2 = k by omega, show isBack (2 * k) = false from decide_eq_false (by omega)]
  unfold roomS fromS toS costS
  simp only [Bool.false_eq_true, if_false, hf, ht, Int.toNat_natCast]
theorem stS_back (l : List Arc) (gs : List Int) (k : Nat) {f t : Nat} (hf : (l.getD k arc0).f = f) (ht : (l.getD k arc0).t = t) : stS l gs (2 * k + 1) = (decide (0 < gs.getD k 0), ⟨t, f, -(l.getD k arc0).e⟩) := by
  unfold stS
  rw [show (2 * k + 1) / 2 = k by omega, show isBack (2 * k + 1) = true from decide_eq_true (by omega)]
  unfold roomS fromS toS costS
  simp only [if_true, hf, ht, Int.toNat_natCast]
theorem stS_ok {N : Nat} {l : List Arc} {gs : List Int} (h : NetOk N l) {n : Nat} (hn : n ≤ 2 * l.length) : ∀ s ∈ stepsS l gs n, s.2.a < N ∧ s.2.b < N ∧ s.2.a ≠ s.2.b ∧ -1048576 ≤ s.2.c ∧ s.2.c ≤ 1048576 := by
  intro s hs
  obtain ⟨k, hk, rfl⟩ := List.mem_map.1 hs
  rw [List.mem_range] at hk
  have hkl : k / 2 < l.length := by omega
  have ha := h.arcs _ (List.getElem_mem hkl)
  rw [← getD_at l _ hkl arc0] at ha
  have hc := stS_cost (gs := gs) h k
  show (fromS (l.getD (k / 2) arc0) (isBack k)).toNat < N ∧ (toS (l.getD (k / 2) arc0) (isBack k)).toNat < N ∧ (fromS (l.getD (k / 2) arc0) (isBack k)).toNat ≠ (toS (l.getD (k / 2) arc0) (isBack k)).toNat ∧ _
  unfold fromS toS
  cases isBack k <;> simp only [Bool.false_eq_true, if_false, if_true] <;> exact ⟨by omega, by omega, by omega, hc⟩
theorem cheapM_small {N : Nat} {l : List Arc} {gs : List Int} (h : NetOk N l) {n : Nat} (hn : n ≤ 2 * l.length) : FstZ N (stepsS l gs n) (cheapM l gs n) := by
  have := fst_of (n := N) (stepsS l gs n) (stS_ok h hn) [] zeroM (fst_zero N)
  rw [List.nil_append] at this
  exact this

set_option maxRecDepth 100000 in
set_option maxHeartbeats 4000000 in
theorem ref_Cheaper (N : Nat) (A : Option Addr) (m c : Nat) (l : List Arc) (GA : Option Addr) (cg : Nat) (gs : List Int) (w : World) (hl : l.length = m) (hok : NetOk N l) (hg : gs.length = m) (hgb : ∀ i, i < m → 0 ≤ gs.getD i 0 ∧ gs.getD i 0 ≤ (l.getD i arc0).m)
    (hr : Els w w.heap.size 4 Arc.cells A l) (hrg : Els w w.heap.size 1 icell GA gs) :
    Calls Try.prog 17 #[.agg #[.int .i64 N, .slice A m c], .slice GA m cg] w fun e w' => e = .returned (.bool (floM N N (cheapM l gs (2 * m)))) ∧ Below w.heap.size w w' := by
  have HB0 := Lib.hid ((Below.refl w.heap.size w).alloc (Nat.le_refl _) (.cells #[.int .i64 N, .slice A m c] 39))
  have HK0 := Lib.hid (Blk.new w 39 #[.int .i64 N, .slice A m c])
  have hN := hok.small
  have hm30 := hok.few
  rw [hl] at hm30
  have HL := Lib.hid hl
  have HG := Lib.hid hg
  have HGB := Lib.hid hgb
  have HOK := Lib.hid hok
  have HR := Lib.hid hr
  have HRG := Lib.hid hrg
  clear hr hok hl hg hgb hrg
  go_enter Try.func17, Try.ntmps17
  go_wp2_with fail
  go_loopw [6, 5] (fun s6 s5 wr => ∃ (k : Nat) (A3 : Option Addr) (c3 : Nat) (P : List (Nat × Nat)), k ≤ N ∧ s6 = .int .i64 k ∧ s5 = .slice A3 k c3 ∧ P.length = k ∧ Below w.heap.size w wr ∧ Blk wr w.heap.size 39 #[.int .i64 N, .slice A m c] ∧ Mat wr (w.heap.size + 1) N A3 c3 P zeroM) (fun s6 _ _ => N - (intOf s6).toNat)
  case atStart => exact ⟨0, none, 0, [], by omega, rfl, rfl, rfl, HB0.out, HK0.out, Mat.nil _ _ _ _⟩
  case round =>
    clear HB0 HK0
    rename World => wr
    obtain ⟨k, A3, c3, P, hk, rfl, rfl, hP, hb, hk0, hm⟩ := hrel
    have c0 := hk0.cell 0
    have HP := Lib.hid hP
    have HB := Lib.hid hb
    have HK := Lib.hid hk0
    have HM := Lib.hid hm
    clear hP hb hk0 hm
    by_cases hlt : k < N
    · go_wp2_with fail
      clear c0
      go_loopw [8, 7] (fun s8 s7 w2 => ∃ (j : Nat) (A5 : Option Addr) (c5 : Nat), j ≤ N ∧ s8 = .int .i64 j ∧ s7 = .slice A5 j c5 ∧ Below w.heap.size w w2 ∧ Blk w2 w.heap.size 39 #[.int .i64 N, .slice A m c] ∧ Mat w2 (w.heap.size + 1) N A3 c3 P zeroM ∧ Own w2 (w.heap.size + 1) 2 1 icell A5 c5 (rowL j (fun _ => farZ)) ∧ (∀ g, blkOf A5 = some g → Apart P g)) (fun s8 _ _ => N - (intOf s8).toNat)
      case atStart => exact ⟨0, none, 0, by omega, rfl, rfl, HB.out, HK.out, HM.out, Own.nil _ _ _ (fun _ => rfl), fun g h => by cases h⟩
      case round =>
        clear HB HK HM
        rename World => w2
        obtain ⟨j, A5, c5, hj, rfl, rfl, hb, hk0, hm, ho, hap⟩ := hrel
        have c0 := hk0.cell 0
        have HB := Lib.hid hb
        have HK := Lib.hid hk0
        have HM := Lib.hid hm
        have HO := Lib.hid ho
        have HAP := Lib.hid hap
        have hz2 := hb.size
        have hk2 := hk0.lt
        clear hb hk0 hm ho hap
        by_cases hlj : j < N
        · have hap0 : ∀ i, i < P.length → (pAt P i).1 < w2.heap.size := fun i hi => by
            obtain ⟨g, _, _, _, _, _, _, h7, _⟩ := HM.out.at_ hi
            exact h7
          have HAP0 := Lib.hid hap0
          clear hap0
          go_wp2_with (at_builtin; go_loud (refine wpList_push rfl _ _ _ rfl (w.heap.size + 1) 1 2 (.int .i64 0) 8 Try.underlying40 (by kernel_rfl) rfl (by omega) icell w2 #[.int .i64 1152921504606846976] A5 j c5 (rowL j (fun _ => farZ)) (rowL_len _ _) rfl HO.out 1 [farZ] rfl rfl _ rfl rfl (by simp [Value.oneCell']) (by unfold maxLen; omega) (by omega) (by omega) ?_; intro A6 c6 w4 hown4 hgrow4 hloc4))
          go_roundw
          case rel =>
            refine ⟨j + 1, A6, c6, by omega, by go_num, rfl, (HB.out.alloc hz2 _).grown hgrow4 (by rw [size_alloc']; omega) (fun g hg => by have := (HO.out.lt g hg).1; omega), (HK.out.alloc _).grown hgrow4 (fun h => by have := (HO.out.lt _ h.symm).1; omega), ?_, by rw [rowL_succ]; exact hown4, ?_⟩
            · exact HM.out.grownRow _ rfl hgrow4 HO.out HAP.out
            · rcases hloc4 with h | h
              · rw [h]; exact HAP.out
              · intro g hg i hi he
                rw [h] at hg
                have := HAP0.out i hi
                injection hg with hg
                omega
          case measure => simp [intOf]; omega
        · obtain rfl : j = N := by omega
          obtain ⟨g5, rfl, hg5, hs5⟩ := HO.out.form_ (by rw [rowL_len]; omega)
          have hap := HAP.out g5 rfl
          have HA5 := Lib.hid hap
          obtain ⟨_, eg, _, _, d5, f5⟩ := HO.out.cell1 (k := k) (by rw [rowL_len]; exact hlt)
          injection eg with eg
          injection eg with eg _
          subst eg
          have hp5 := HO.out.put1 (f := fun x => .int .i64 x) (k := k) (x := 0) (by rw [rowL_len]; exact hlt)
          have hru : (rowL j (fun _ => farZ)).set k 0 = rowL j (zeroM k) := by
            unfold rowL
            rw [mapR_set]
            refine mapR_congr fun z _ => ?_
            unfold zeroM
            by_cases e : z = k
            · rw [if_pos e, if_pos e.symm]
            · rw [if_neg e, if_neg (fun h => e h.symm)]
          rw [hru] at hp5
          obtain ⟨w3, hw3⟩ : ∃ w3, w3 = w2.setCell ⟨g5, k, none⟩ (.int .i64 0) := ⟨_, rfl⟩
          have hz3 : w3.heap.size = w2.heap.size := by rw [hw3]; simp [World.setCell]
          have HW3 := Lib.hid hw3
          have HO3 : Hid (Own w3 (w.heap.size + 1) 2 1 icell (some ⟨g5, 0, none⟩) c5 (rowL j (zeroM k))) := Lib.hid (by rw [hw3]; exact hp5)
          have HB3 : Hid (Below w.heap.size w w3) := Lib.hid (by rw [hw3]; exact HB.out.setCell (p := ⟨g5, k, none⟩) (by show w.heap.size ≤ g5; omega) _)
          have HK3 : Hid (Blk w3 w.heap.size 39 #[.int .i64 j, .slice A m c]) := Lib.hid (by rw [hw3]; exact HK.out.far (p := ⟨g5, k, none⟩) (by show w.heap.size ≠ g5; omega) _)
          have HM3 : Hid (Mat w3 (w.heap.size + 1) j A3 c3 P zeroM) := Lib.hid (by
            rw [hw3]
            refine ⟨HM.out.out.far (p := ⟨g5, k, none⟩) ?_ _, fun i hi => (HM.out.row i hi).far (p := ⟨g5, k, none⟩) ?_ _, HM.out.ne⟩
            · have := HM.out.out.apart HO.out (by decide)
              rcases this with h | h
              · rw [h]; simp
              · intro e; exact h (by rw [e]; rfl)
            · simpa [blkOf] using hap i hi)
          have hz2' : w.heap.size ≤ w3.heap.size := by omega
          have hk3 : w.heap.size < w3.heap.size := by omega
          have HZ3 := Lib.hid hz2'
          have HS3 := Lib.hid hz3
          have HK3' := Lib.hid hk3
          clear hap HAP hp5 hru HB HK HM HO hz3 hz2 hk2 HW3 hz2' hk3
          subst hw3
          go_wp2_with (first
            | (at_builtin; go_loud (refine wpList_push rfl _ _ _ rfl (w.heap.size + 1) 1 40 (.slice none 0 0) 24 Try.underlying83 (by kernel_rfl) rfl (by omega) (rowF j) (w2.setCell ⟨g5, k, none⟩ (.int .i64 0)) #[.slice (some ⟨g5, 0, none⟩) j c5] A3 k c3 P HP.out rfl HM3.out.out 1 [(g5, c5)] rfl rfl w2.heap.size rfl HS3.out (by simp [Value.oneCell']) (by unfold maxLen; omega) (by omega) (by have := HK3'.out; have := HS3.out; omega) ?_; intro A6 c6 w4 hown4 hgrow4 hloc4)))
          go_roundw
          case rel =>
            refine ⟨k + 1, A6, c6, P ++ [(g5, c5)], by omega, by go_num, rfl, by rw [List.length_append, HP.out]; rfl, (HB3.out.alloc HZ3.out _).grown hgrow4 (by rw [size_alloc']; have := HZ3.out; omega) (fun g hg => by have := (HM3.out.out.lt g hg).1; omega), (HK3.out.alloc _).grown hgrow4 (fun h => by have := (HM3.out.out.lt _ h.symm).1; omega), ?_⟩
            exact HM3.out.snoc (by rw [HP.out]; exact HO3.out) HA5.out _ rfl hown4 hgrow4
          case measure => simp [intOf]; omega
    · obtain rfl : k = N := by omega
      have HP0 := Lib.hid HP.out
      have c1 := HK.out.cell 1
      have HM0 : Hid (Mat wr (w.heap.size + 1) k A3 c3 P (cheapM l gs (2 * 0))) := HM
      go_wp2_with fail
      clear c0 c1 hlt hk HM
      go_loopw [40] (fun s40 w2 => ∃ q : Nat, q ≤ m ∧ s40 = .int .i64 q ∧ Below w.heap.size w w2 ∧ Blk w2 w.heap.size 39 #[.int .i64 k, .slice A m c] ∧ Mat w2 (w.heap.size + 1) k A3 c3 P (cheapM l gs (2 * q))) (fun s40 _ => m - (intOf s40).toNat)
      case atStart => exact ⟨0, by omega, rfl, HB.out, HK.out, HM0.out⟩
      case round =>
        clear HB HK HM0
        rename World => w2
        obtain ⟨q, hq, rfl, hb, hk0, hm⟩ := hrel
        have c0 := hk0.cell 0
        have HB := Lib.hid hb
        have HK := Lib.hid hk0
        have HM := Lib.hid hm
        by_cases hlq : q < m
        · have hqL : q < l.length := by rw [HL.out]; exact hlq
          have hqg : q < gs.length := by rw [HG.out]; exact hlq
          have c1 := hk0.cell 1
          obtain ⟨ba, oa, rfl, hba, a0, a1, a2, a3⟩ := (HR.out.below hb).at4 (k := q) hqL
          obtain ⟨bg, og, rfl, hbg, g0⟩ := (HRG.out.below hb).at1 (k := q) hqg
          rw [← getD_at l q hqL arc0] at a0 a1 a2 a3
          rw [← getD_at gs q hqg 0] at g0
          have harc := HOK.out.arcs _ (List.getElem_mem hqL)
          rw [← getD_at l q hqL arc0] at harc
          have hgw := HGB.out q hlq
          obtain ⟨fi, hfi⟩ := Int.eq_ofNat_of_zero_le harc.1
          obtain ⟨ti, hti⟩ := Int.eq_ofNat_of_zero_le harc.2.2.1
          have hs1 := stS_fwd l gs q hfi hti
          have hs2 := stS_back l gs q hfi hti
          have hfN : fi < k := by omega
          have htN : ti < k := by omega
          have hft : fi ≠ ti := by omega
          have hM1 := cheapM_succ l gs (2 * q)
          have hM2 := cheapM_succ l gs (2 * q + 1)
          rw [hs1] at hM1
          rw [hs2] at hM2
          have HSM := Lib.hid (cheapM_small (gs := gs) HOK.out (n := 2 * q) (by rw [HL.out]; omega)).small
          have HSM1 := Lib.hid (cheapM_small (gs := gs) HOK.out (n := 2 * q + 1) (by rw [HL.out]; omega)).small
          obtain ⟨a, ha⟩ : ∃ a, a = l.getD q arc0 := ⟨_, rfl⟩
          obtain ⟨g, hg⟩ : ∃ g, g = gs.getD q 0 := ⟨_, rfl⟩
          rw [← ha] at a0 a1 a2 a3 harc hgw hfi hti hM1 hM2
          rw [← hg] at g0 hgw hM1 hM2
          obtain ⟨af, at_, am, ae⟩ := a
          simp only at a0 a1 a2 a3 harc hgw hfi hti hM1 hM2
          subst hfi hti
          obtain ⟨M, hMM⟩ : ∃ M, M = cheapM l gs (2 * q) := ⟨_, rfl⟩
          obtain ⟨M1, hMM1⟩ : ∃ M1, M1 = cheapM l gs (2 * q + 1) := ⟨_, rfl⟩
          rw [← hMM] at hM1 hm HSM
          rw [← hMM1] at hM1 hM2 HSM1
          have HM1 := Lib.hid hM1
          have HM2 := Lib.hid hM2
          have hz := hb.size
          obtain ⟨T, hT⟩ : ∃ T, T = w2.heap.size := ⟨_, rfl⟩
          obtain ⟨V, hV⟩ : ∃ V, V = w2.alloc (.cells #[.int .i64 fi, .int .i64 ti, .int .i64 am, .int .i64 ae] 45) := ⟨_, rfl⟩
          have hbV : Below w2.heap.size w2 V := by rw [hV]; exact (Below.refl _ w2).alloc (Nat.le_refl _) _
          have hST : w.heap.size < T := by rw [hT]; exact hk0.lt
          have HBV : Hid (Below w.heap.size w V) := Lib.hid (hb.trans (hbV.mono hz))
          have HKV : Hid (Blk V w.heap.size 39 #[.int .i64 k, .slice (some ⟨ba, oa, none⟩) m c]) := Lib.hid (hk0.below hbV hk0.lt)
          have HMV : Hid (Mat V (w.heap.size + 1) k A3 c3 P M) := Lib.hid (hm.below hbV)
          have HTV : Hid (Blk V T 45 #[.int .i64 fi, .int .i64 ti, .int .i64 am, .int .i64 ae]) := Lib.hid (by rw [hV, hT]; exact Blk.new w2 _ _)
          have HGV : Hid (V.cell? ⟨bg, og + q, none⟩ = some (.int .i64 g)) := Lib.hid ((hbV.cell (by show bg < _; omega)).trans g0)
          have HVV := Lib.hid hV
          have HTT := Lib.hid hT
          have hbgS : bg < w.heap.size := hbg
          clear hb hk0 hm hbV ha hg hMM hMM1 hM1 hM2 hT hV hs1 hs2 hqL hqg
          go_upto_region 15 with fail
          rw [← HVV.out, ← HTT.out]
          clear c0 c1 a0 a1 a2 a3 g0 HVV HTT HB HK HM
          have HM1' : Hid (M1 = if (decide (g < am) && decide (ae < M fi ti)) = true then updM M fi ti ae else M) := Lib.hid (by
            rw [HM1.out, show decide (0 < am - g) = decide (g < am) from decide_eq_decide.2 (by omega)]
            rfl)
          have hwn : IntKind.i64.wrap (-ae) = -ae := IntWalk.i64_in _ (by omega)
          have HM2' : Hid (cheapM l gs (2 * q + 1 + 1) = if (decide (0 < g) && decide (-ae < M1 ti fi)) = true then updM M1 ti fi (-ae) else M1) := Lib.hid HM2.out
          go_cut [65] from 41 to 107 (fun s wx => s = .bool (decide (g < am) && decide (ae < M fi ti)) ∧ Below w.heap.size w wx ∧ Blk wx w.heap.size 39 #[.int .i64 k, .slice (some ⟨ba, oa, none⟩) m c] ∧ Mat wx (w.heap.size + 1) k A3 c3 P M ∧ Blk wx T 45 #[.int .i64 fi, .int .i64 ti, .int .i64 am, .int .i64 ae] ∧ wx.cell? ⟨bg, og + q, none⟩ = some (.int .i64 g))
          case first =>
            obtain ⟨go, hA, hgB, hgs, hne1, e1, hB1, hs1, hc1⟩ := HMV.out.at_ (i := fi) (by rw [HP0.out]; omega)
            subst hA
            obtain ⟨d1, f1⟩ := hc1 ti (by omega)
            obtain ⟨x, hx⟩ : ∃ x, x = M fi ti := ⟨_, rfl⟩
            rw [← hx] at d1
            have t0 := HTV.out.cell 0
            have t1 := HTV.out.cell 1
            have t2 := HTV.out.cell 2
            have t3 := HTV.out.cell 3
            have g0 := HGV.out
            have HX := Lib.hid hx
            clear hc1 hx
            by_cases hr : g < am
            · have hrb : decide (g < am) = true := decide_eq_true hr
              by_cases hc : ae < x
              · have hcb : decide (ae < x) = true := decide_eq_true hc
                go_big_quiet (fail)
                go_wp2_with fail
                go_meet
                case rel => exact ⟨by rw [← HX.out, hrb, hcb]; rfl, below_drewN HBV.out _, HKV.out.drewN _, HMV.out.drewN _, HTV.out.drewN _, HGV.out⟩
              · have hcb : decide (ae < x) = false := decide_eq_false hc
                go_big_quiet (fail)
                go_wp2_with fail
                go_meet
                case rel => exact ⟨by rw [← HX.out, hrb, hcb]; rfl, below_drewN HBV.out _, HKV.out.drewN _, HMV.out.drewN _, HTV.out.drewN _, HGV.out⟩
            · have hrb : decide (g < am) = false := decide_eq_false hr
              go_big_quiet (fail)
              go_wp2_with fail
              go_meet
              case rel => exact ⟨by rw [hrb]; rfl, below_drewN HBV.out _, HKV.out.drewN _, HMV.out.drewN _, HTV.out.drewN _, HGV.out⟩
          case rest =>
          obtain ⟨rfl, hbV, hkV, hmV, htV, hgV⟩ := hcut
          clear HBV HKV HMV HTV HGV
          have HBV := Lib.hid hbV
          have HKV := Lib.hid hkV
          have HMV := Lib.hid hmV
          have HTV := Lib.hid htV
          have HGV := Lib.hid hgV
          clear hbV hkV hmV htV hgV
          obtain ⟨bt, hbt⟩ : ∃ bt, bt = (decide (g < am) && decide (ae < M fi ti)) := ⟨_, rfl⟩
          rw [← hbt] at HM1' ⊢
          clear hbt
          go_upto_if 65 with fail
          go_cut [] from 41 to 107 (fun wx => Below w.heap.size w wx ∧ Blk wx w.heap.size 39 #[.int .i64 k, .slice (some ⟨ba, oa, none⟩) m c] ∧ Mat wx (w.heap.size + 1) k A3 c3 P M1 ∧ Blk wx T 45 #[.int .i64 fi, .int .i64 ti, .int .i64 am, .int .i64 ae] ∧ wx.cell? ⟨bg, og + q, none⟩ = some (.int .i64 g))
          case first =>
            cases bt with
            | true =>
              obtain ⟨go, hA, hgB, hgs, hne1, e1, hB1, hs1, hc1⟩ := HMV.out.at_ (i := fi) (by rw [HP0.out]; omega)
              subst hA
              obtain ⟨d1, f1⟩ := hc1 ti (by omega)
              have hput := (HMV.out).put (i := fi) (j := ti) (M' := M1) (by rw [HP0.out]; omega) (by omega) (ae) (by rw [HM1'.out, if_pos rfl]; unfold updM; rw [if_pos ⟨rfl, rfl⟩]) (fun i' j' h => by rw [HM1'.out, if_pos rfl]; unfold updM; rw [if_neg h])
              have t0 := HTV.out.cell 0
              have t1 := HTV.out.cell 1
              have t3 := HTV.out.cell 3
              have HPUT := Lib.hid hput
              obtain ⟨pr, hpr⟩ : ∃ pr, pr = pAt P fi := ⟨_, rfl⟩
              have hTg : T ≠ pr.1 := by
                rw [hpr]
                exact (own_blk (HMV.out.row fi (by rw [HP0.out]; omega)) HTV.out (by decide)).symm
              rw [← hpr] at e1 d1 f1 HPUT hB1
              obtain ⟨gr, cr⟩ := pr
              simp only at e1 d1 f1 HPUT hB1 hTg
              skip
              clear hput hc1 hpr hne1
              go_wp2_with fail
              go_region
              all_goals
                go_wp2_with fail
                go_meet
                case rel => exact ⟨(HBV.out.setCell (p := ⟨gr, ti, none⟩) (by show w.heap.size ≤ gr; omega) _).drew, (HKV.out.far (p := ⟨gr, ti, none⟩) (by show w.heap.size ≠ gr; omega) _).drew, HPUT.out.drew1, (HTV.out.far (p := ⟨gr, ti, none⟩) hTg _).drew,
                  (((Below.refl w.heap.size wc).setCell (p := ⟨gr, ti, none⟩) (by show w.heap.size ≤ gr; omega) (.int .i64 (ae))).drew.cell hbgS).trans HGV.out⟩
            | false =>
              go_wp2_with fail
              go_meet
              case rel => exact ⟨HBV.out, HKV.out, by rw [HM1'.out, if_neg (by simp)]; exact HMV.out, HTV.out, HGV.out⟩
          case rest =>
          obtain ⟨hbV, hkV, hmV, htV, hgV⟩ := hcut
          clear HBV HKV HMV HTV HGV
          have HBV := Lib.hid hbV
          have HKV := Lib.hid hkV
          have HMV := Lib.hid hmV
          have HTV := Lib.hid htV
          have HGV := Lib.hid hgV
          clear hbV hkV hmV htV hgV
          go_upto_region 17 with fail
          go_cut [95] from 41 to 107 (fun s wx => s = .bool (decide (0 < g) && decide (-ae < M1 ti fi)) ∧ Below w.heap.size w wx ∧ Blk wx w.heap.size 39 #[.int .i64 k, .slice (some ⟨ba, oa, none⟩) m c] ∧ Mat wx (w.heap.size + 1) k A3 c3 P M1 ∧ Blk wx T 45 #[.int .i64 fi, .int .i64 ti, .int .i64 am, .int .i64 ae] ∧ wx.cell? ⟨bg, og + q, none⟩ = some (.int .i64 g))
          case first =>
            obtain ⟨go, hA, hgB, hgs, hne1, e1, hB1, hs1, hc1⟩ := HMV.out.at_ (i := ti) (by rw [HP0.out]; omega)
            subst hA
            obtain ⟨d1, f1⟩ := hc1 fi (by omega)
            obtain ⟨x, hx⟩ : ∃ x, x = M1 ti fi := ⟨_, rfl⟩
            rw [← hx] at d1
            have t0 := HTV.out.cell 0
            have t1 := HTV.out.cell 1
            have t2 := HTV.out.cell 2
            have t3 := HTV.out.cell 3
            have g0 := HGV.out
            have HX := Lib.hid hx
            clear hc1 hx
            by_cases hr : 0 < g
            · have hrb : decide (0 < g) = true := decide_eq_true hr
              by_cases hc : -ae < x
              · have hcb : decide (-ae < x) = true := decide_eq_true hc
                go_big_quiet (fail)
                go_wp2_with fail
                go_meet
                case rel => exact ⟨by rw [← HX.out, hrb, hcb]; rfl, below_drewN HBV.out _, HKV.out.drewN _, HMV.out.drewN _, HTV.out.drewN _, HGV.out⟩
              · have hcb : decide (-ae < x) = false := decide_eq_false hc
                go_big_quiet (fail)
                go_wp2_with fail
                go_meet
                case rel => exact ⟨by rw [← HX.out, hrb, hcb]; rfl, below_drewN HBV.out _, HKV.out.drewN _, HMV.out.drewN _, HTV.out.drewN _, HGV.out⟩
            · have hrb : decide (0 < g) = false := decide_eq_false hr
              go_big_quiet (fail)
              go_wp2_with fail
              go_meet
              case rel => exact ⟨by rw [hrb]; rfl, below_drewN HBV.out _, HKV.out.drewN _, HMV.out.drewN _, HTV.out.drewN _, HGV.out⟩
          case rest =>
          obtain ⟨rfl, hbV, hkV, hmV, htV, hgV⟩ := hcut
          clear HBV HKV HMV HTV HGV
          have HBV := Lib.hid hbV
          have HKV := Lib.hid hkV
          have HMV := Lib.hid hmV
          have HTV := Lib.hid htV
          have HGV := Lib.hid hgV
          clear hbV hkV hmV htV hgV
          obtain ⟨bt, hbt⟩ : ∃ bt, bt = (decide (0 < g) && decide (-ae < M1 ti fi)) := ⟨_, rfl⟩
          rw [← hbt] at HM2' ⊢
          clear hbt
          cases bt with
          | true =>
            obtain ⟨go, hA, hgB, hgs, hne1, e1, hB1, hs1, hc1⟩ := HMV.out.at_ (i := ti) (by rw [HP0.out]; omega)
            subst hA
            obtain ⟨d1, f1⟩ := hc1 fi (by omega)
            have hput := (HMV.out).put (i := ti) (j := fi) (M' := (cheapM l gs (2 * q + 1 + 1))) (by rw [HP0.out]; omega) (by omega) (-ae) (by rw [HM2'.out, if_pos rfl]; unfold updM; rw [if_pos ⟨rfl, rfl⟩]) (fun i' j' h => by rw [HM2'.out, if_pos rfl]; unfold updM; rw [if_neg h])
            have t0 := HTV.out.cell 0
            have t1 := HTV.out.cell 1
            have t3 := HTV.out.cell 3
            have HPUT := Lib.hid hput
            obtain ⟨pr, hpr⟩ : ∃ pr, pr = pAt P ti := ⟨_, rfl⟩
            have hTg : T ≠ pr.1 := by
              rw [hpr]
              exact (own_blk (HMV.out.row ti (by rw [HP0.out]; omega)) HTV.out (by decide)).symm
            rw [← hpr] at e1 d1 f1 HPUT hB1
            obtain ⟨gr, cr⟩ := pr
            simp only at e1 d1 f1 HPUT hB1 hTg
            skip
            clear hput hc1 hpr hne1
            go_wp2_with fail
            go_region
            all_goals
              go_wp2_with fail
              go_roundw
              case rel => exact ⟨q + 1, by omega, by go_num, (HBV.out.setCell (p := ⟨gr, fi, none⟩) (by show w.heap.size ≤ gr; omega) _).drew, (HKV.out.far (p := ⟨gr, fi, none⟩) (by show w.heap.size ≠ gr; omega) _).drew, by rw [show 2 * (q + 1) = 2 * q + 1 + 1 by omega]; exact HPUT.out.drew1⟩
              case measure => simp [intOf]; omega
          | false =>
            go_wp2_with fail
            go_roundw
            case rel => exact ⟨q + 1, by omega, by go_num, HBV.out, HKV.out, by rw [show 2 * (q + 1) = 2 * q + 1 + 1 by omega]; exact (by rw [HM2'.out, if_neg (by simp)]; exact HMV.out)⟩
            case measure => simp [intOf]; omega
        · obtain rfl : q = m := by omega
          obtain ⟨M0, hM0⟩ : ∃ M0, M0 = cheapM l gs (2 * q) := ⟨_, rfl⟩
          have hfst := cheapM_small (gs := gs) HOK.out (n := 2 * q) (by rw [HL.out]; exact Nat.le_refl _)
          rw [← hM0] at hm hfst
          have HF0 : Hid (FloZ k M0 0 M0) := Lib.hid ⟨hfst.small, ⟨fun i hi => by rw [hfst.diag i hi]; exact Int.le_refl _, fun m hm => by omega⟩, fun _ _ _ _ => Int.le_refl _⟩
          have HMM := Lib.hid hM0
          have HMZ := Lib.hid hm
          have HFE : Hid (floM k (k - 0) M0 = floM k k M0) := Lib.hid rfl
          clear hb hk0 hm hM0 hfst HM
          go_wp2_with fail
          clear c0 hlq hq
          go_loopw [11] (fun s11 w2 => ∃ (r : Nat) (M : Mtx), r ≤ k ∧ s11 = .int .i64 r ∧ Below w.heap.size w w2 ∧ Blk w2 w.heap.size 39 #[.int .i64 k, .slice A q c] ∧ Mat w2 (w.heap.size + 1) k A3 c3 P M ∧ FloZ k M0 r M ∧ floM k (k - r) M = floM k k M0) (fun s11 _ => k - (intOf s11).toNat)
          case atStart => exact ⟨0, M0, by omega, rfl, HB.out, HK.out, HMZ.out, HF0.out, HFE.out⟩
          case round =>
            clear HB HK HMZ HF0 HFE
            rename World => w3
            obtain ⟨r, M, hr, rfl, hb, hk0, hm, hf, hfe⟩ := hrel
            have c0 := hk0.cell 0
            have HB := Lib.hid hb
            have HK := Lib.hid hk0
            have HM := Lib.hid hm
            have HF := Lib.hid hf
            have HFE := Lib.hid hfe
            clear hb hk0 hm hf hfe
            by_cases hlr : r < k
            · have HM0' : Hid (Mat w3 (w.heap.size + 1) k A3 c3 P (turnM r k M 0)) := HM
              have HLR := Lib.hid hlr
              go_wp2_with fail
              clear c0 HM
              go_loopw [12] (fun s12 w4 => ∃ i : Nat, i ≤ k ∧ s12 = .int .i64 i ∧ Below w.heap.size w w4 ∧ Blk w4 w.heap.size 39 #[.int .i64 k, .slice A q c] ∧ Mat w4 (w.heap.size + 1) k A3 c3 P (turnM r k M i)) (fun s12 _ => k - (intOf s12).toNat)
              case atStart => exact ⟨0, by omega, rfl, HB.out, HK.out, HM0'.out⟩
              case round =>
                clear HB HK HM0'
                rename World => w4
                obtain ⟨i, hi, rfl, hb, hk0, hm⟩ := hrel
                have c0 := hk0.cell 0
                have HB := Lib.hid hb
                have HK := Lib.hid hk0
                have HM := Lib.hid hm
                clear hb hk0 hm
                by_cases hli : i < k
                · have HM0' : Hid (Mat w4 (w.heap.size + 1) k A3 c3 P (lineM r k (turnM r k M i) i 0)) := HM
                  go_wp2_with fail
                  clear c0 HM
                  go_loopw [13] (fun s13 w5 => ∃ j : Nat, j ≤ k ∧ s13 = .int .i64 j ∧ Below w.heap.size w w5 ∧ Blk w5 w.heap.size 39 #[.int .i64 k, .slice A q c] ∧ Mat w5 (w.heap.size + 1) k A3 c3 P (lineM r k (turnM r k M i) i j)) (fun s13 _ => k - (intOf s13).toNat)
                  case atStart => exact ⟨0, by omega, rfl, HB.out, HK.out, HM0'.out⟩
                  case round =>
                    clear HB HK HM0'
                    rename World => w5
                    obtain ⟨j, hj, rfl, hb, hk0, hm⟩ := hrel
                    have c0 := hk0.cell 0
                    have HB := Lib.hid hb
                    have HK := Lib.hid hk0
                    have HM := Lib.hid hm
                    by_cases hlj : j < k
                    · have hsm := small_mid (HF.out.shut.diag r hlr) HF.out.small (big_pos r) hlr i j
                      have hbg := big_le (show r ≤ 10 by omega)
                      have hs1' := hsm i r hli hlr
                      have hs2' := hsm r j hlr hlj
                      have hs3' := hsm i j hli hlj
                      have hbp := big_pos r
                      have hnx : lineM r k (turnM r k M i) i (j + 1) = by1 r (lineM r k (turnM r k M i) i j) i j := rfl
                      have HNX := Lib.hid hnx
                      obtain ⟨M', hM'⟩ : ∃ M', M' = lineM r k (turnM r k M i) i j := ⟨_, rfl⟩
                      rw [← hM'] at hm hs1' hs2' hs3' HNX HM
                      obtain ⟨g, hA, hgB, hgs, hne1, e1, hB1, hs1, hc1⟩ := hm.at_ (i := i) (by rw [HP0.out]; exact hli)
                      obtain ⟨g', hA', _, _, hne2, e2, hB2, hs2, hc2⟩ := hm.at_ (i := r) (by rw [HP0.out]; exact hlr)
                      subst hA
                      obtain rfl : g = g' := by simpa using hA'
                      obtain ⟨d1, _⟩ := hc1 r hlr
                      obtain ⟨d2, _⟩ := hc2 j hlj
                      obtain ⟨d3, f3⟩ := hc1 j hlj
                      obtain ⟨pi, hpi⟩ : ∃ pi, pi = pAt P i := ⟨_, rfl⟩
                      obtain ⟨pq, hpq⟩ : ∃ pq, pq = pAt P r := ⟨_, rfl⟩
                      have hput := fun z x => (hm.drewN z).put (i := i) (j := j) (M' := updM M' i j x) (by rw [HP0.out]; exact hli) hlj x (by unfold updM; rw [if_pos ⟨rfl, rfl⟩]) (fun i' j' h => by unfold updM; rw [if_neg h])
                      rw [← hpi] at e1 d1 d3 f3 hput hB1
                      rw [← hpq] at e2 d2
                      obtain ⟨gi, ci⟩ := pi
                      obtain ⟨gq, cq⟩ := pq
                      simp only at e1 d1 d3 f3 hput hB1 e2 d2
                      have HPUT := Lib.hid hput
                      have HBY : Hid (by1 r M' i j = if (decide (M' i r < farZ) && decide (M' r j < farZ) && decide (M' i r + M' r j < M' i j)) = true then updM M' i j (M' i r + M' r j) else M') := Lib.hid rfl
                      obtain ⟨a, ha⟩ : ∃ a, a = M' i r := ⟨_, rfl⟩
                      obtain ⟨b, hb'⟩ : ∃ b, b = M' r j := ⟨_, rfl⟩
                      obtain ⟨x, hx⟩ : ∃ x, x = M' i j := ⟨_, rfl⟩
                      rw [← ha] at d1 HBY hs1'
                      rw [← hb'] at d2 HBY hs2'
                      rw [← hx] at d3 HBY hs3'
                      unfold farZ at hs1' hs2' hs3' HBY
                      clear hb hk0 hm hA' hc1 hc2 hpi hpq hput ha hb' hx hne1 hne2 hs1 hs2 hB2 hsm hnx hM'
                      by_cases h1 : a < 1152921504606846976
                      · by_cases h2 : b < 1152921504606846976
                        · have hw : IntKind.i64.wrap (a + b) = a + b := IntWalk.i64_in _ (by omega)
                          by_cases h3 : a + b < x
                          · have HE : Hid (by1 r M' i j = updM M' i j (a + b)) := Lib.hid (by rw [HBY.out, if_pos (by simp [h1, h2, h3])])
                            have q1 : decide (a < 1152921504606846976) = true := decide_eq_true h1
                            have q2 : decide (b < 1152921504606846976) = true := decide_eq_true h2
                            have q3 : decide (a + b < x) = true := decide_eq_true h3
                            clear hs1' hs2' hs3' hbg hbp
                            go_wp2_with fail
                            go_big_quiet (fail)
                            go_wp2_with fail
                            go_region
                            all_goals
                              go_wp2_with fail
                              go_roundw
                              case rel => exact ⟨j + 1, by omega, by go_num, ((below_drewN HB.out _).setCell (p := ⟨gi, j, none⟩) (by show w.heap.size ≤ gi; omega) _), ((HK.out.drewN _).far (p := ⟨gi, j, none⟩) (by show w.heap.size ≠ gi; omega) _), by rw [HNX.out, HE.out]; exact HPUT.out _ _⟩
                              case measure => simp [intOf]; omega
                          · have HE : Hid (by1 r M' i j = M') := Lib.hid (by rw [HBY.out, if_neg (by simp [h1, h2]; omega)])
                            have q3 : decide (a + b < x) = false := decide_eq_false h3
                            clear hs1' hs2' hs3' hbg hbp
                            go_wp2_with fail
                            go_big_quiet (fail)
                            go_wp2_with fail
                            go_roundw
                            case rel => exact ⟨j + 1, by omega, by go_num, below_drewN HB.out _, HK.out.drewN _, by rw [HNX.out, HE.out]; exact HM.out.drewN _⟩
                            case measure => simp [intOf]; omega
                        · have HE : Hid (by1 r M' i j = M') := Lib.hid (by rw [HBY.out, if_neg (by simp; omega)])
                          have q2 : decide (b < 1152921504606846976) = false := decide_eq_false h2
                          clear hs1' hs2' hs3' hbg hbp
                          go_wp2_with fail
                          go_big_quiet (fail)
                          go_wp2_with fail
                          go_roundw
                          case rel => exact ⟨j + 1, by omega, by go_num, below_drewN HB.out _, HK.out.drewN _, by rw [HNX.out, HE.out]; exact HM.out.drewN _⟩
                          case measure => simp [intOf]; omega
                      · have HE : Hid (by1 r M' i j = M') := Lib.hid (by rw [HBY.out, if_neg (by simp; omega)])
                        have q1 : decide (a < 1152921504606846976) = false := decide_eq_false h1
                        clear hs1' hs2' hs3' hbg hbp
                        go_wp2_with fail
                        go_big_quiet (fail)
                        go_wp2_with fail
                        go_roundw
                        case rel => exact ⟨j + 1, by omega, by go_num, below_drewN HB.out _, HK.out.drewN _, by rw [HNX.out, HE.out]; exact HM.out.drewN _⟩
                        case measure => simp [intOf]; omega
                    · obtain rfl : j = k := by omega
                      clear hb hk0 hm
                      go_wp2_with fail
                      go_roundw
                      case rel => exact ⟨i + 1, by omega, by go_num, HB.out, HK.out, HM.out⟩
                      case measure => simp [intOf]; omega
                · obtain rfl : i = k := by omega
                  have hrr : floM i (i - r) M = if negM (turnM r i M i) i then true else floM i (i - (r + 1)) (turnM r i M i) := by
                    rw [show i - r = (i - (r + 1)) + 1 by omega]
                    show (if negM (turnM (i - (i - (r + 1) + 1)) i M i) i then true else _) = _
                    rw [show i - (i - (r + 1) + 1) = r by omega]
                  have hnx : negM (turnM r i M i) i = false → FloZ i M0 (r + 1) (turnM r i M i) := HF.out.next hlr hN
                  have HRR := Lib.hid hrr
                  have HNX := Lib.hid hnx
                  obtain ⟨M', hM'⟩ : ∃ M', M' = turnM r i M i := ⟨_, rfl⟩
                  rw [← hM'] at HM HRR HNX
                  have HNE : Hid ((List.range 0).any (fun z => decide (M' z z < 0)) = false) := Lib.hid rfl
                  have HLR2 := Lib.hid hlr
                  clear hrr hnx hM'
                  go_wp2_with fail
                  clear c0 hli hi hlr
                  go_loopw [14] (fun s14 w5 => ∃ z : Nat, z ≤ i ∧ s14 = .int .i64 z ∧ w4 = w5 ∧ (List.range z).any (fun z => decide (M' z z < 0)) = false) (fun s14 _ => i - (intOf s14).toNat)
                  case atStart => exact ⟨0, by omega, rfl, rfl, HNE.out⟩
                  case round =>
                    clear HNE
                    rename World => w5
                    obtain ⟨z, hz, rfl, rfl, hno⟩ := hrel
                    have c0 := HK.out.cell 0
                    by_cases hlz : z < i
                    · obtain ⟨g, hA, hgB, hgs, hne1, e1, hB1, hs1, hc1⟩ := HM.out.at_ (i := z) (by rw [HP0.out]; exact hlz)
                      subst hA
                      obtain ⟨d1, _⟩ := hc1 z hlz
                      obtain ⟨x, hx⟩ : ∃ x, x = M' z z := ⟨_, rfl⟩
                      rw [← hx] at d1
                      have HX := Lib.hid hx
                      have HNO := Lib.hid hno
                      clear hc1 hx hno
                      by_cases hneg : x < 0
                      · have HNG : Hid (negM M' i = true) := Lib.hid (by
                          unfold negM
                          exact any_range_of hlz (by rw [← HX.out]; exact decide_eq_true hneg))
                        go_wp2_with fail
                        go_ret
                        exact ⟨ret_bool (by rw [HMM.out.symm, ← HFE.out, HRR.out, HNG.out]; rfl), HB.out⟩
                      · have hnb : decide (x < 0) = false := decide_eq_false hneg
                        go_wp2_with fail
                        go_roundw
                        case rel => exact ⟨z + 1, by omega, by go_num, trivial, by rw [any_range_succ, HNO.out, ← HX.out]; exact hnb⟩
                        case measure => simp [intOf]; omega
                    · obtain rfl : z = i := by omega
                      have HNG : Hid (negM M' z = false) := Lib.hid hno
                      have hlr := HLR2.out
                      clear hno
                      go_wp2_with fail
                      go_roundw
                      case rel => exact ⟨r + 1, M', by omega, by go_num, HB.out, HK.out, HM.out, HNX.out HNG.out, by rw [← HFE.out, HRR.out, HNG.out]; rfl⟩
                      case measure => simp [intOf]; omega
            · obtain rfl : r = k := by omega
              go_wp2_with fail
              go_ret
              exact ⟨ret_bool (by rw [← HMM.out, ← HFE.out, Nat.sub_self]; rfl), HB.out⟩
end Go.Proofs.Ytjkfogkpacmdlaa
