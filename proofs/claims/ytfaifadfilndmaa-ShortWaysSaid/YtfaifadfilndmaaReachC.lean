/- The reference's way to tell how far all are: at once, so many times. Conditions: the arcs read as a list and may be. -/
import Derived.Test.YtfaifadfilndmaaReachB
namespace Go.Proofs.Ytfaifadfilndmaa
open Go.RowKit

def farV : Int := 1152921504606846976
def refL (O : List (Option Int)) : List Int := O.map fun x => x.getD farV
theorem refL_set (O : List (Option Int)) (i : Nat) (x : Int) : refL (O.set i (some x)) = (refL O).set i x := by unfold refL; rw [List.map_set]; rfl
theorem refL_length (O : List (Option Int)) : (refL O).length = O.length := by simp [refL]
theorem refL_at (O : List (Option Int)) (v : Nat) (hv : v < O.length) : (refL O).getD v 0 = (og O v).getD farV := by
  unfold refL og
  simp [List.getD_eq_getElem?_getD, hv]
theorem refL_start (N s : Nat) : (List.replicate N farV).set s 0 = refL (startO N s) := by
  unfold refL startO
  rw [List.map_set, List.map_replicate]
  rfl
theorem ref_bound {l : List Arc} {N s r k v : Nat} {x : Int} (hg : ∀ a ∈ l, GoodA N a) (hs : s < N) (hr : r ≤ 11) (h : og (passR (refO l N s r) (refO l N s r) (l.take k)) v = some x) : -400000000 ≤ x ∧ x ≤ 400000000 := by
  have h1 := (refO_ok hg hs r).1
  have h2 := passR_sound hg h1 (l.take k) (refO l N s r) (fun a ha => List.mem_of_mem_take ha) (refO_length l N s r) (h1.more (by omega))
  obtain ⟨q, hq, hw⟩ := h2 v x h
  have hb := hw.bound hg
  omega
theorem ref_bound0 {l : List Arc} {N s r v : Nat} {x : Int} (hg : ∀ a ∈ l, GoodA N a) (hs : s < N) (hr : r ≤ 11) (h : og (refO l N s r) v = some x) : -400000000 ≤ x ∧ x ≤ 400000000 :=
  ref_bound (k := 0) hg hs hr (by simpa [passR] using h)

set_option maxRecDepth 100000 in
set_option maxHeartbeats 4000000 in
theorem ref_Reach (N s : Nat) (arcs : Nat) (A : Option Addr) (n c : Nat) (l : List Arc) (w : World) (hl : l.length = n) (hg : ∀ a ∈ l, GoodA N a) (hN : N ≤ 10) (hn : n ≤ 30) (hs : s < N) (ha : arcs ≤ 11) (hr : Els w w.heap.size 4 Arc.cells A l) :
    Calls Try.prog 36 #[.agg #[.int .i64 N, .slice A n c], .int .i64 s, .int .i64 arcs] w fun e w' => ∃ A0 cap, e = .returned (.slice A0 N cap) ∧ Below w.heap.size w w' ∧ Els w' w'.heap.size 1 icell A0 (refL (refO l N s arcs)) := by
  have HL := Lib.hid hl
  have HG := Lib.hid hg
  have HR := Lib.hid hr
  have HB0 := Lib.hid ((Below.refl w.heap.size w).alloc (Nat.le_refl _) (.cells #[.int .i64 N, .slice A n c] 34))
  have HK0 := Lib.hid (Blk.new w 34 #[.int .i64 N, .slice A n c])
  clear hl hg hr
  go_enter Try.func36, Try.ntmps36
  go_wp2_with fail
  go_loopw [8, 7] (fun s8 s7 wr => ∃ (k : Nat) (A1 : Option Addr) (cap : Nat), k ≤ N ∧ s8 = .int .i64 k ∧ s7 = .slice A1 k cap ∧ Below w.heap.size w wr ∧ Blk wr w.heap.size 34 #[.int .i64 N, .slice A n c] ∧ Own wr (w.heap.size + 1) 2 1 icell A1 cap (List.replicate k farV)) (fun s8 _ _ => N - (intOf s8).toNat)
  case atStart => exact ⟨0, none, 0, by omega, rfl, rfl, HB0.out, HK0.out, Own.nil _ _ _ (fun _ => rfl)⟩
  case round =>
    clear HB0 HK0
    rename World => wr
    obtain ⟨k, A1, cap, hk, rfl, rfl, hb, hk0, hown⟩ := hrel
    have hz := hb.size
    have c0 := hk0.cell 0
    have c1 := hk0.cell 1
    have hklt := hk0.lt
    have HB := Lib.hid hb
    have HK := Lib.hid hk0
    have HO := Lib.hid hown
    clear hb hk0 hown
    by_cases hlt : k < N
    · go_wp2_with (at_builtin; go_loud (refine wpList_push rfl _ _ _ rfl (w.heap.size + 1) 1 2 (.int .i64 0) 8 Try.underlying35 (by kernel_rfl) rfl (by omega) icell wr #[.int .i64 1152921504606846976] A1 k cap (List.replicate k farV) (by simp) rfl HO.out 1 [farV] rfl rfl _ rfl rfl (by simp [Value.oneCell']) (by unfold maxLen; omega) (by omega) (by omega) ?_; intro A2 cap2 w4 hown2 hgrow hloc))
      go_roundw
      case rel => exact ⟨k + 1, A2, cap2, by omega, by go_num, rfl, (HB.out.alloc hz _).grown hgrow (by rw [size_alloc']; omega) (fun g hg => by have := (HO.out.lt g hg).1; omega), (HK.out.alloc _).grown hgrow (fun hg => by have := (HO.out.lt _ hg.symm).1; omega), by rw [List.replicate_succ']; exact hown2⟩
      case measure => simp [intOf]; omega
    · obtain rfl : k = N := by omega
      obtain ⟨g1, rfl, hg1, hg1lt, cs, fs⟩ := HO.out.cell1 (f := fun x => .int .i64 x) (k := s) (by simpa using hs)
      have hp := HO.out.put1 (f := fun x => .int .i64 x) (k := s) (x := 0) (by simpa using hs)
      rw [refL_start] at hp
      have HO1 := Lib.hid hp
      have HB1 := Lib.hid (HB.out.setCell (p := ⟨g1, s, none⟩) (show w.heap.size ≤ g1 by omega) (.int .i64 0))
      have HK1 := Lib.hid (HK.out.far (p := ⟨g1, s, none⟩) (show w.heap.size ≠ g1 by omega) (.int .i64 0))
      clear hp HO HB HK
      go_wp2_with fail
      clear c0 c1
      go_loopw [9, 7] (fun s9 s7 w2 => ∃ (r : Nat) (A1 : Option Addr) (cap : Nat), r ≤ arcs ∧ s9 = .int .i64 r ∧ s7 = .slice A1 k cap ∧ Below w.heap.size w w2 ∧ Blk w2 w.heap.size 34 #[.int .i64 k, .slice A n c] ∧ Own w2 (w.heap.size + 1) 2 1 icell A1 cap (refL (refO l k s r))) (fun s9 _ _ => arcs - (intOf s9).toNat)
      case atStart => exact ⟨0, _, _, by omega, rfl, rfl, HB1.out, HK1.out, HO1.out⟩
      case round =>
        clear HB1 HK1 HO1 cs fs
        rename World => w2
        obtain ⟨r, A1, cap, hrk, rfl, rfl, hb, hk0, hown⟩ := hrel
        have hz := hb.size
        have c0 := hk0.cell 0
        have c1 := hk0.cell 1
        have hklt := hk0.lt
        have HB := Lib.hid hb
        have HK := Lib.hid hk0
        have HO := Lib.hid hown
        clear hb hk0 hown
        obtain ⟨d, hd⟩ : ∃ d, d = refO l k s r := ⟨_, rfl⟩
        have hdl : d.length = k := by rw [hd, refO_length]
        have HD := Lib.hid hd
        rw [← hd] at HO
        clear hd
        by_cases hlt2 : r < arcs
        · have hlen : (refL d).length = k := by rw [refL_length, hdl]
          obtain ⟨ga, rfl, hga, hgalt⟩ := HO.out.form_ (by rw [hlen]; omega)
          have hO2 : Own (w2.alloc (.cells #[] 2)) w2.heap.size 2 1 icell (some ⟨w2.heap.size, 0, none⟩) 0 ([] : List Int) :=
            Own.lit (f := icell) (c := 1) w2 w2.heap.size 2 #[] (fun _ => rfl) [] 0 rfl rfl (by unfold maxLen; omega) (Nat.le_refl _)
          have HO2 := Lib.hid hO2
          have HLEN := Lib.hid hlen
          have hE2 : Els (w2.alloc (.cells #[] 2)) (w2.alloc (.cells #[] 2)).heap.size 1 icell (some ⟨ga, 0, none⟩) (refL d) := (HO.out.alloc _).els
          have HE2 := Lib.hid hE2
          clear hO2 hlen hE2
          go_wp2_with (at_builtin; go_loud (refine wpList_append_els rfl _ _ _ rfl w2.heap.size 1 2 (.int .i64 0) 8 Try.underlying35 (by kernel_rfl) rfl (by omega) icell _ (some ⟨w2.heap.size, 0, none⟩) 0 0 [] rfl rfl HO2.out _ _ _ (refL d) HLEN.out rfl _ HE2.out (one_flat (fun a u hu => by simp at hu; rw [hu]; rfl) _) (by unfold maxLen; omega) (by omega) (by rw [size_alloc']; exact Nat.le_succ _) ?_; intro A2 cap2 w3 hown2 hgrow2 hloc2; have hk3 := (HK.out.alloc (.cells #[] 2)).grown hgrow2 (fun hg => by simp [blkOf] at hg; omega); have c10 := hk3.cell 0; have c11 := hk3.cell 1; have HK3 := Lib.hid hk3; clear hk3))
          rw [List.nil_append] at hown2
          obtain ⟨gb, rfl, hgb, hgblt⟩ := hown2.form_ (by rw [HLEN.out]; omega)
          have hB3 := (HB.out.alloc hz (.cells #[] 2)).grown hgrow2 (by rw [size_alloc']; omega) (fun g hg => by simp [blkOf] at hg; omega)
          have HB3 := Lib.hid hB3
          have HO3 := Lib.hid ((HO.out.alloc (.cells #[] 2)).kept hgrow2 (.inr (by simp [blkOf]; omega)))
          have HO4 := Lib.hid hown2
          clear hown2 hgrow2 hloc2 hB3 HO HO2 HE2 HB HK
          clear c0 c1
          go_wp2_with fail
          clear c10 c11
          go_loopw [36] (fun s36 w4 => ∃ q : Nat, q ≤ n ∧ s36 = .int .i64 q ∧ Below w.heap.size w w4 ∧ Blk w4 w.heap.size 34 #[.int .i64 k, .slice A n c] ∧ Own w4 (w.heap.size + 1) 2 1 icell (some ⟨ga, 0, none⟩) cap (refL d) ∧ Own w4 w2.heap.size 2 1 icell (some ⟨gb, 0, none⟩) cap2 (refL (passR d d (l.take q)))) (fun s36 _ => n - (intOf s36).toNat)
          case atStart => exact ⟨0, by omega, rfl, HB3.out, HK3.out, HO3.out, HO4.out⟩
          case round =>
            clear HB3 HK3 HO3 HO4
            rename World => w4
            obtain ⟨q, hq, rfl, hb, hk0, ho1, ho2⟩ := hrel
            have hz4 := hb.size
            have hltK := hk0.lt
            have hlt1 := (ho1.lt ga rfl).2
            have hlt4 := (ho2.lt gb rfl).2
            by_cases hlk : q < n
            · have hkl : q < l.length := by rw [HL.out]; exact hlk
              obtain ⟨b0, off, rfl, hbb, q0, q1, q2, q3⟩ := (HR.out.below hb).at4 hkl
              obtain ⟨a, ha⟩ : ∃ a, a = l[q] := ⟨_, rfl⟩
              have hga2 : GoodA k a := by rw [ha]; exact HG.out _ (List.getElem_mem hkl)
              have htk : l.take (q + 1) = l.take q ++ [a] := by rw [List.take_succ_eq_append_getElem hkl, ha]
              rw [← ha] at q0 q1 q2 q3
              have hQl : (passR d d (l.take q)).length = k := by rw [passR_length, hdl]
              have hbd : ∀ v x, og (passR d d (l.take q)) v = some x → -400000000 ≤ x ∧ x ≤ 400000000 := fun v x h => ref_bound HG.out hs (show r ≤ 11 by omega) (by rw [← HD.out]; exact h)
              have hbd0 : ∀ v x, og d v = some x → -400000000 ≤ x ∧ x ≤ 400000000 := fun v x h => ref_bound0 HG.out hs (show r ≤ 11 by omega) (by rw [← HD.out]; exact h)
              have hnp : passR d d (l.take (q + 1)) = relS d (passR d d (l.take q)) a := by rw [htk, passR_snoc]
              obtain ⟨Q, hQ⟩ : ∃ Q, Q = passR d d (l.take q) := ⟨_, rfl⟩
              rw [← hQ] at hQl hbd hnp ho2
              have HNP := Lib.hid hnp
              have HQL := Lib.hid hQl
              obtain ⟨f, hf⟩ := Int.eq_ofNat_of_zero_le hga2.f0
              obtain ⟨tt, ht⟩ := Int.eq_ofNat_of_zero_le hga2.t0
              have hfN : f < k := by have := hga2.f1; omega
              have htN : tt < k := by have := hga2.t1; omega
              have he0 := hga2.e0
              have he1 := hga2.e1
              rw [hf] at q0
              rw [ht] at q1
              have hld : ∀ v, v < k → v < (refL d).length := fun v hv => by rw [refL_length, hdl]; exact hv
              have hlq : ∀ v, v < k → v < (refL Q).length := fun v hv => by rw [refL_length, hQl]; exact hv
              obtain ⟨cf, _⟩ := ho1.at_ (f := fun x => .int .i64 x) (hld f hfN)
              obtain ⟨ct, ft⟩ := ho2.at_ (f := fun x => .int .i64 x) (hlq tt htN)
              rw [← getD_at _ f (hld f hfN) 0, refL_at _ _ (by rw [hdl]; exact hfN)] at cf
              rw [← getD_at _ tt (hlq tt htN) 0, refL_at _ _ (by rw [hQl]; exact htN)] at ct
              have hbf := hbd0 f
              have hbt2 := hbd tt
              have hI : impS d Q a = match og d f with
                | none => false
                | some x => bestO (og Q tt) (x + a.e) := by unfold impS; rw [hf, ht]; rfl
              have HRY := Lib.hid (@relS_yes d Q a)
              have HRN := Lib.hid (@relS_no d Q a)
              obtain ⟨F, hF⟩ : ∃ F, F = og d f := ⟨_, rfl⟩
              obtain ⟨T, hT⟩ : ∃ T, T = og Q tt := ⟨_, rfl⟩
              rw [← hF] at cf hbf hI
              rw [← hT] at ct hbt2 hI
              have HFF := Lib.hid hF
              have HTT := Lib.hid ht
              have HFA := Lib.hid hf
              have HO1 := Lib.hid ho1
              have HO2 := Lib.hid ho2
              have HB := Lib.hid hb
              have HK := Lib.hid hk0
              have c0 := hk0.cell 0
              have c1 := hk0.cell 1
              have HLQ := Lib.hid hlq
              obtain ⟨ae, hae⟩ : ∃ x, x = a.e := ⟨_, rfl⟩
              obtain ⟨am, ham⟩ : ∃ x, x = a.m := ⟨_, rfl⟩
              rw [← hae] at he0 he1 q3 hI
              rw [← ham] at q2
              have HAE := Lib.hid hae
              have hE0 := Blk.new w4 70 #[.int .i64 f, .int .i64 tt, .int .i64 am, .int .i64 ae]
              have e0 := hE0.cell 0
              have e1 := hE0.cell 1
              have e3 := hE0.cell 3
              clear hE0 hQ hF hT hf ht hae ham ha hga2 htk hbd hbd0 hnp hQl hb hk0 ho1 ho2 hld hlq
              have fin : ∀ w5 : World, Below (w4.heap.size) w4 w5 → impS d Q a = false → (∃ q' : Nat, q' ≤ n ∧ Value.int .i64 ((q : Int) + 1) = .int .i64 q' ∧ Below w.heap.size w w5 ∧ Blk w5 w.heap.size 34 #[.int .i64 k, .slice (some ⟨b0, off, none⟩) n c] ∧
                Own w5 (w.heap.size + 1) 2 1 icell (some ⟨ga, 0, none⟩) cap (refL d) ∧ Own w5 w2.heap.size 2 1 icell (some ⟨gb, 0, none⟩) cap2 (refL (passR d d (l.take q')))) := fun w5 h5 hno =>
                ⟨q + 1, by omega, by go_num, HB.out.trans (h5.mono hz4), HK.out.below h5 (by omega), HO1.out.below h5 (Nat.le_refl _), by rw [HNP.out, HRN.out hno]; exact HO2.out.below h5 (Nat.le_refl _)⟩
              have FIN := Lib.hid fin
              clear fin
              have hbx := Lib.hid ((Below.refl w4.heap.size w4).alloc (Nat.le_refl _) (.cells #[.int .i64 f, .int .i64 tt, .int .i64 am, .int .i64 ae] 70))
              cases F with
              | none =>
                simp only [Option.getD_none, farV] at cf
                have HI : Hid (impS d Q a = false) := Lib.hid hI
                clear hI hbf
                go_wp2_with fail
                go_quiet (fail)
                go_wp2_with fail
                go_roundw
                case rel => exact FIN.out _ (below_drewN hbx.out _) HI.out
                case measure => simp [intOf]; omega
              | some x =>
                have hbx2 := hbf x rfl
                simp only [Option.getD_some] at cf hI
                have hw : IntKind.i64.wrap (x + ae) = x + ae := IntWalk.i64_in _ (by omega)
                have finy : ∀ w5 : World, Below (w4.heap.size) w4 w5 → impS d Q a = true → (∃ q' : Nat, q' ≤ n ∧ Value.int .i64 ((q : Int) + 1) = .int .i64 q' ∧ Below w.heap.size w (w5.setCell ⟨gb, tt, none⟩ (.int .i64 (x + ae))) ∧ Blk (w5.setCell ⟨gb, tt, none⟩ (.int .i64 (x + ae))) w.heap.size 34 #[.int .i64 k, .slice (some ⟨b0, off, none⟩) n c] ∧
                  Own (w5.setCell ⟨gb, tt, none⟩ (.int .i64 (x + ae))) (w.heap.size + 1) 2 1 icell (some ⟨ga, 0, none⟩) cap (refL d) ∧ Own (w5.setCell ⟨gb, tt, none⟩ (.int .i64 (x + ae))) w2.heap.size 2 1 icell (some ⟨gb, 0, none⟩) cap2 (refL (passR d d (l.take q')))) := fun w5 h5 hyes => by
                  obtain ⟨x', hx1, hx2⟩ := HRY.out hyes
                  rw [HFA.out] at hx1
                  rw [HTT.out, ← HAE.out] at hx2
                  have hxx : x' = x := by
                    have := hx1.symm.trans (HFF.out.symm)
                    injection this
                  subst hxx
                  have o2 := (HO2.out.below h5 (Nat.le_refl _)).put1 (f := fun x => .int .i64 x) (k := tt) (x := x' + ae) (HLQ.out tt htN)
                  rw [← refL_set] at o2
                  refine ⟨q + 1, by omega, by go_num, (HB.out.trans (h5.mono hz4)).setCell (p := ⟨gb, tt, none⟩) (show w.heap.size ≤ gb by omega) _, (HK.out.below h5 (by omega)).far (p := ⟨gb, tt, none⟩) (show w.heap.size ≠ gb by omega) _, (HO1.out.below h5 (Nat.le_refl _)).far (p := ⟨gb, tt, none⟩) (show some ga ≠ some gb by simp; omega) _, ?_⟩
                  rw [HNP.out, hx2]; exact o2
                have FINY := Lib.hid finy
                clear finy
                have hdl2 : decide (x < 1152921504606846976) = true := decide_eq_true (by omega)
                cases T with
                | none =>
                  simp only [Option.getD_none, farV] at ct
                  have hdl3 : decide (x + ae < 1152921504606846976) = true := decide_eq_true (by omega)
                  have HI : Hid (impS d Q a = true) := Lib.hid hI
                  clear hI hbf
                  go_wp2_with fail
                  go_quiet (fail)
                  go_wp2_with fail
                  go_region
                  all_goals
                    go_wp2_with fail
                    go_roundw
                  case rel => exact FINY.out _ (below_drewN hbx.out _) HI.out
                  case measure => simp [intOf]; omega
                | some z =>
                  simp only [Option.getD_some] at ct
                  by_cases hlt3 : x + ae < z
                  · have HI : Hid (impS d Q a = true) := Lib.hid (by rw [hI]; unfold bestO; simp; omega)
                    clear hI hbf
                    go_wp2_with fail
                    go_quiet (fail)
                    go_wp2_with fail
                    go_region
                    all_goals
                      go_wp2_with fail
                      go_roundw
                    case rel => exact FINY.out _ (below_drewN hbx.out _) HI.out
                    case measure => simp [intOf]; omega
                  · have HI : Hid (impS d Q a = false) := Lib.hid (by rw [hI]; unfold bestO; simp; omega)
                    clear hI hbf
                    go_wp2_with fail
                    go_quiet (fail)
                    go_wp2_with fail
                    go_roundw
                    case rel => exact FIN.out _ (below_drewN hbx.out _) HI.out
                    case measure => simp [intOf]; omega
            · obtain rfl : q = n := by omega
              have htl : l.take q = l := by rw [← HL.out, List.take_length]
              rw [htl] at ho2
              have HB := Lib.hid hb
              have HK := Lib.hid hk0
              have HO2 := Lib.hid (ho2.weaken (show w.heap.size + 1 ≤ w2.heap.size by omega))
              clear hb hk0 ho1 ho2 htl
              go_wp2_with fail
              go_roundw
              case rel => exact ⟨r + 1, _, _, by omega, by go_num, rfl, HB.out, HK.out, by rw [refO, ← HD.out]; exact HO2.out⟩
              case measure => simp [intOf]; omega
        · obtain rfl : r = arcs := by omega
          go_wp2_with fail
          go_ret
          exact ⟨_, _, rfl, HB.out, by rw [← HD.out]; exact HO.out.els⟩
end Go.Proofs.Ytfaifadfilndmaa
