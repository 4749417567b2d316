/- The least length by just so many arcs: the reference's way to tell it. Conditions: the arcs read as a list and may be. -/
import Derived.Test.YtfaifadfilndmaaWayP
import Derived.Test.YtfaifadfilndmaaReachD
namespace Go.Proofs.Ytfaifadfilndmaa
open Go.RowKit

def eS (d : List (Option Int)) (i : Nat) (x : Option Int) (a : Arc) : Option Int := if a.f.toNat = i then (match og d a.t.toNat with | none => x | some z => if bestO x (z + a.e) = true then some (z + a.e) else x) else x
theorem snoc_ind {α : Type} {p : List α → Prop} (h0 : p []) (hs : ∀ l a, p l → p (l ++ [a])) (l : List α) : p l := by
  have h : ∀ q : List α, p q.reverse := fun q => by
    induction q with
    | nil => exact h0
    | cons a q ih => rw [List.reverse_cons]; exact hs _ _ ih
  rw [← List.reverse_reverse l]
  exact h _
theorem passR_eS {N : Nat} {d : List (Option Int)} {i : Nat} (hi : i < N) : ∀ (l : List Arc), (∀ a ∈ l, GoodA N a) → og (passR d (List.replicate N none) (l.map revA)) i = l.foldl (eS d i) none := by
  intro l
  refine snoc_ind (p := fun l => (∀ a ∈ l, GoodA N a) → og (passR d (List.replicate N none) (l.map revA)) i = l.foldl (eS d i) none) ?_ ?_ l
  · intro _; exact og_none N i
  · intro l a ih hg
    have h1 := ih (fun b hb => hg b (List.mem_append.2 (.inl hb)))
    have ha := hg a (List.mem_append.2 (.inr (List.mem_singleton.2 rfl)))
    rw [List.map_append, List.map_singleton, passR_snoc, List.foldl_append, List.foldl_cons, List.foldl_nil, ← h1]
    have hlen : (passR d (List.replicate N none) (l.map revA)).length = N := by rw [passR_length, List.length_replicate]
    obtain ⟨Q, hQ⟩ : ∃ Q, Q = passR d (List.replicate N none) (l.map revA) := ⟨_, rfl⟩
    rw [← hQ] at hlen ⊢
    have hf0 := ha.f0
    have hf1 := ha.f1
    show og (match og d a.t.toNat with | none => Q | some x => if bestO (og Q a.f.toNat) (x + a.e) = true then Q.set a.f.toNat (some (x + a.e)) else Q) i = eS d i (og Q i) a
    unfold eS
    cases og d a.t.toNat with
    | none =>
      show og Q i = if a.f.toNat = i then og Q i else og Q i
      split <;> rfl
    | some z =>
      by_cases hfi : a.f.toNat = i
      · rw [if_pos hfi]
        show og (if bestO (og Q a.f.toNat) (z + a.e) = true then Q.set a.f.toNat (some (z + a.e)) else Q) i = (if bestO (og Q i) (z + a.e) = true then some (z + a.e) else og Q i)
        rw [hfi]
        split
        · rw [og_set _ _ (by omega), if_pos rfl]
        · rfl
      · rw [if_neg hfi]
        show og (if bestO (og Q a.f.toNat) (z + a.e) = true then Q.set a.f.toNat (some (z + a.e)) else Q) i = og Q i
        split
        · rw [og_set _ _ (by omega), if_neg hfi]
        · rfl
theorem exO_eS {N : Nat} {l : List Arc} (hg : ∀ a ∈ l, GoodA N a) (t k : Nat) {i : Nat} (hi : i < N) : og (exO l N t (k + 1)) i = l.foldl (eS (exO l N t k) i) none := passR_eS hi l hg
theorem refL_range {O : List (Option Int)} {N : Nat} (h : O.length = N) : (List.range N).map (fun i => (og O i).getD farV) = refL O := by
  apply List.ext_getElem
  · simp [refL, h]
  · intro i h1 h2
    have hi : i < O.length := by simp at h1; omega
    simp [refL, og, List.getD_eq_getElem?_getD, hi]
theorem range_snoc_map {β : Type} (f : Nat → β) (k : Nat) : (List.range (k + 1)).map f = (List.range k).map f ++ [f k] := by rw [List.range_succ, List.map_append]; rfl
/-- Bounds of what is told in the middle of a round. -/
theorem eS_bound {N : Nat} {d : List (Option Int)} {i : Nat} {b : Int} (hb : ∀ v x, og d v = some x → -b ≤ x ∧ x ≤ b) : ∀ (l : List Arc), (∀ a ∈ l, GoodA N a) → ∀ x, l.foldl (eS d i) none = some x → -b - 1048576 ≤ x ∧ x ≤ b + 1048576 := by
  intro l
  refine snoc_ind (p := fun l => (∀ a ∈ l, GoodA N a) → ∀ x, l.foldl (eS d i) none = some x → -b - 1048576 ≤ x ∧ x ≤ b + 1048576) ?_ ?_ l
  · intro _ x h; cases h
  · intro l a ih hg x h
    have ha := hg a (List.mem_append.2 (.inr (List.mem_singleton.2 rfl)))
    have h0 := ha.e0
    have h1 := ha.e1
    have ih' := ih (fun b hb => hg b (List.mem_append.2 (.inl hb)))
    rw [List.foldl_append, List.foldl_cons, List.foldl_nil] at h
    unfold eS at h
    split at h
    · split at h
      · exact ih' x h
      · rename_i z hz
        split at h
        · injection h with h
          have := hb _ _ hz
          omega
        · exact ih' x h
    · exact ih' x h

set_option maxRecDepth 100000 in
set_option maxHeartbeats 4000000 in
theorem ref_exact (N at_ t arcs : Nat) (A : Option Addr) (n c : Nat) (l : List Arc) (w : World) (hl : l.length = n) (hg : ∀ a ∈ l, GoodA N a) (hN : N ≤ 10) (hn : n ≤ 30) (hat : at_ < N) (ht : t < N) (ha : arcs ≤ 11) (hr : Els w w.heap.size 4 Arc.cells A l) :
    Calls Try.prog 37 #[.agg #[.int .i64 N, .slice A n c], .int .i64 at_, .int .i64 t, .int .i64 arcs] w fun e w' => e = .returned (.int .i64 ((og (exO l N t arcs) at_).getD farV)) ∧ Below w.heap.size w w' := by
  obtain ⟨S, hS⟩ : ∃ S, S = w.heap.size := ⟨_, rfl⟩
  have HB0 := Lib.hid ((Below.refl w.heap.size w).alloc (Nat.le_refl _) (.cells #[.int .i64 N, .slice A n c] 34))
  have HK0 := Lib.hid (Blk.new w 34 #[.int .i64 N, .slice A n c])
  rw [← hS] at HB0 HK0 hr ⊢
  have HS := Lib.hid hS
  have HL := Lib.hid hl
  have HG := Lib.hid hg
  have HR := Lib.hid hr
  clear hl hg hr hS
  go_enter Try.func37, Try.ntmps37
  go_wp2_with fail
  rw [← HS.out]
  go_loopw [10, 9] (fun s10 s9 wr => ∃ (k : Nat) (A1 : Option Addr) (cap : Nat), k ≤ N ∧ s10 = .int .i64 k ∧ s9 = .slice A1 k cap ∧ Below S w wr ∧ Blk wr S 34 #[.int .i64 N, .slice A n c] ∧ Own wr (S + 1) 2 1 icell A1 cap ((List.range k).map fun i => (og (exO l N t 0) i).getD farV)) (fun s10 _ _ => N - (intOf s10).toNat)
  case atStart => exact ⟨0, none, 0, by omega, rfl, rfl, HB0.out, HK0.out, Own.nil _ _ _ (fun _ => rfl)⟩
  case round =>
    clear HB0 HK0
    rename World => wr
    obtain ⟨k, A1, cap, hk, rfl, rfl, hb, hk0, hown⟩ := hrel
    have hz := hb.size
    rw [← HS.out] at hz
    have c0 := hk0.cell 0
    have c1 := hk0.cell 1
    have hklt := hk0.lt
    have HB := Lib.hid hb
    have HK := Lib.hid hk0
    have HO := Lib.hid hown
    clear hb hk0 hown
    by_cases hlt : k < N
    · have hst : og (exO l N t 0) k = if t = k then some 0 else none := startO_at ht k
      by_cases hkt : k = t
      · have hkt1 : ((k : Int) == (t : Int)) = true := by simp [hkt]
        have hst2 : (og (exO l N t 0) k).getD farV = 0 := by rw [hst, if_pos hkt.symm]; rfl
        have HST := Lib.hid hst2
        clear hkt hst hst2
        go_wp2_with (at_builtin; go_loud (refine wpList_push rfl _ _ _ rfl (S + 1) 1 2 (.int .i64 0) 8 Try.underlying35 (by kernel_rfl) rfl (by omega) icell wr #[.int .i64 0] A1 k cap _ (by simp) rfl HO.out 1 [0] rfl rfl _ rfl rfl (by simp [Value.oneCell']) (by unfold maxLen; omega) (by omega) (by omega) ?_; intro A2 cap2 w4 hown2 hgrow hloc))
        go_roundw
        case rel => exact ⟨k + 1, A2, cap2, by omega, by go_num, rfl, (HB.out.alloc hz _).grown hgrow (by rw [size_alloc']; omega) (fun g hg => by have := (HO.out.lt g hg).1; omega), (HK.out.alloc _).grown hgrow (fun hg => by have := (HO.out.lt _ hg.symm).1; omega), by rw [range_snoc_map, HST.out]; exact hown2⟩
        case measure => simp [intOf]; omega
      · have hkt1 : ((k : Int) == (t : Int)) = false := by simp; omega
        have hst2 : (og (exO l N t 0) k).getD farV = 1152921504606846976 := by rw [hst, if_neg (fun h => hkt h.symm)]; rfl
        have HST := Lib.hid hst2
        clear hkt hst hst2
        go_wp2_with (at_builtin; go_loud (refine wpList_push rfl _ _ _ rfl (S + 1) 1 2 (.int .i64 0) 8 Try.underlying35 (by kernel_rfl) rfl (by omega) icell wr #[.int .i64 1152921504606846976] A1 k cap _ (by simp) rfl HO.out 1 [1152921504606846976] rfl rfl _ rfl rfl (by simp [Value.oneCell']) (by unfold maxLen; omega) (by omega) (by omega) ?_; intro A2 cap2 w4 hown2 hgrow hloc))
        go_roundw
        case rel => exact ⟨k + 1, A2, cap2, by omega, by go_num, rfl, (HB.out.alloc hz _).grown hgrow (by rw [size_alloc']; omega) (fun g hg => by have := (HO.out.lt g hg).1; omega), (HK.out.alloc _).grown hgrow (fun hg => by have := (HO.out.lt _ hg.symm).1; omega), by rw [range_snoc_map, HST.out]; exact hown2⟩
        case measure => simp [intOf]; omega
    · obtain rfl : k = N := by omega
      have ho1 := HO.out
      rw [refL_range (exO_length l k t 0)] at ho1
      have HO1 := Lib.hid ho1
      clear ho1 HO
      go_wp2_with fail
      clear c0 c1
      go_loopw [12, 9] (fun s12 s9 w2 => ∃ (r : Nat) (A1 : Option Addr) (cap : Nat), r ≤ arcs ∧ s12 = .int .i64 r ∧ s9 = .slice A1 k cap ∧ Below S w w2 ∧ Blk w2 S 34 #[.int .i64 k, .slice A n c] ∧ Own w2 (S + 1) 2 1 icell A1 cap (refL (exO l k t r))) (fun s12 _ _ => arcs - (intOf s12).toNat)
      case atStart => exact ⟨0, _, _, by omega, rfl, rfl, HB.out, HK.out, HO1.out⟩
      case round =>
        clear HB HK HO1
        rename World => w2
        obtain ⟨r, A1, cap, hrk, rfl, rfl, hb, hk0, hown⟩ := hrel
        have hz := hb.size
        rw [← HS.out] at hz
        have hklt := hk0.lt
        have HB := Lib.hid hb
        have HK := Lib.hid hk0
        have HO := Lib.hid hown
        clear hb hk0 hown
        by_cases hlt2 : r < arcs
        · have hlen : (refL (exO l k t r)).length = k := by rw [refL_length, exO_length]
          obtain ⟨ga, rfl, hga, hgalt⟩ := HO.out.form_ (by rw [hlen]; omega)
          obtain ⟨T, hT⟩ : ∃ T, T = w2.heap.size := ⟨_, rfl⟩
          have HT := Lib.hid hT
          rw [← hT] at hgalt hz hklt
          clear hT
          go_wp2_with fail
          go_loopw [14, 13] (fun s14 s13 w3 => ∃ (i : Nat) (A2 : Option Addr) (cap2 : Nat), i ≤ k ∧ s14 = .int .i64 i ∧ s13 = .slice A2 i cap2 ∧ Below T w2 w3 ∧ Own w3 T 2 1 icell A2 cap2 ((List.range i).map fun i => (og (exO l k t (r + 1)) i).getD farV)) (fun s14 _ _ => k - (intOf s14).toNat)
          case atStart => exact ⟨0, none, 0, by omega, rfl, rfl, Below.refl _ _, Own.nil _ _ _ (fun _ => rfl)⟩
          case round =>
            rename World => w3
            obtain ⟨i, A2, cap2, hik, rfl, rfl, hb3, ho3⟩ := hrel
            have hz3 := hb3.size
            rw [← HT.out] at hz3
            have hk3 := HK.out.below hb3 hklt
            have c0 := hk3.cell 0
            have c1 := hk3.cell 1
            have HB3 := Lib.hid hb3
            have HO3 := Lib.hid ho3
            have HK3 := Lib.hid hk3
            clear hb3 ho3 hk3
            by_cases hlt3 : i < k
            · obtain ⟨T3, hT3⟩ : ∃ T3, T3 = w3.heap.size := ⟨_, rfl⟩
              have HT3 := Lib.hid hT3
              rw [← hT3] at hz3
              clear hT3
              go_wp2_with fail
              go_loopw [45, 15] (fun s45 s15 w4 => ∃ q : Nat, q ≤ n ∧ s45 = .int .i64 q ∧ s15 = .int .i64 (((l.take q).foldl (eS (exO l k t r) i) none).getD farV) ∧ Below T3 w3 w4) (fun s45 _ _ => n - (intOf s45).toNat)
              case atStart => exact ⟨0, by omega, rfl, rfl, Below.refl _ _⟩
              case round =>
                clear c0 c1
                rename World => w4
                obtain ⟨q, hq, rfl, rfl, hb4⟩ := hrel
                have hz4 := hb4.size
                rw [← HT3.out] at hz4
                have HB4 := Lib.hid hb4
                by_cases hlk : q < n
                · have hkl : q < l.length := by rw [HL.out]; exact hlk
                  have hbw4 : Below S w w4 := (HB.out.trans (HB3.out.mono hz)).trans (hb4.mono (by omega))
                  obtain ⟨b0, off, rfl, hbb, q0, q1, q2, q3⟩ := (HR.out.below hbw4).at4 hkl
                  obtain ⟨a, ha⟩ : ∃ a, a = l[q] := ⟨_, rfl⟩
                  have hga2 : GoodA k a := by rw [ha]; exact HG.out _ (List.getElem_mem hkl)
                  have htk : (l.take (q + 1)).foldl (eS (exO l k t r) i) none = eS (exO l k t r) i ((l.take q).foldl (eS (exO l k t r) i) none) a := by rw [List.take_succ_eq_append_getElem hkl, ha, List.foldl_append]; rfl
                  rw [← ha] at q0 q1 q2 q3
                  have hbd : ∀ v x, og (exO l k t r) v = some x → -11534336 ≤ x ∧ x ≤ 11534336 := fun v x h => by
                    have := exO_bound HG.out ht h
                    omega
                  have hbx : ∀ x, (l.take q).foldl (eS (exO l k t r) i) none = some x → -11534336 - 1048576 ≤ x ∧ x ≤ 11534336 + 1048576 := eS_bound hbd (l.take q) (fun b hb => HG.out b (List.mem_of_mem_take hb))
                  obtain ⟨f, hf⟩ := Int.eq_ofNat_of_zero_le hga2.f0
                  obtain ⟨tt, htt⟩ := Int.eq_ofNat_of_zero_le hga2.t0
                  have hfN : f < k := by have := hga2.f1; omega
                  have htN : tt < k := by have := hga2.t1; omega
                  have he0 := hga2.e0
                  have he1 := hga2.e1
                  rw [hf] at q0
                  rw [htt] at q1
                  have ho4 := (HO.out.below HB3.out (by rw [← HT.out]; exact Nat.le_refl _)).below hb4 (by rw [HT3.out]; exact Nat.le_refl _)
                  have hlq : tt < (refL (exO l k t r)).length := by rw [hlen]; exact htN
                  obtain ⟨ct, _⟩ := ho4.at_ (f := fun x => .int .i64 x) hlq
                  rw [← getD_at _ tt hlq 0, refL_at _ _ (by rw [exO_length]; exact htN)] at ct
                  have hst : eS (exO l k t r) i ((l.take q).foldl (eS (exO l k t r) i) none) a = if f = i then (match og (exO l k t r) tt with | none => (l.take q).foldl (eS (exO l k t r) i) none | some z => if bestO ((l.take q).foldl (eS (exO l k t r) i) none) (z + a.e) = true then some (z + a.e) else (l.take q).foldl (eS (exO l k t r) i) none) else (l.take q).foldl (eS (exO l k t r) i) none := by
                    unfold eS
                    rw [hf, htt]
                    rfl
                  rw [hst] at htk
                  have hbt := hbd tt
                  obtain ⟨X, hX⟩ : ∃ X, X = (l.take q).foldl (eS (exO l k t r) i) none := ⟨_, rfl⟩
                  obtain ⟨Z, hZ⟩ : ∃ Z, Z = og (exO l k t r) tt := ⟨_, rfl⟩
                  rw [← hX] at htk hbx ⊢
                  rw [← hZ] at htk hbt ct
                  obtain ⟨ae, hae⟩ : ∃ x, x = a.e := ⟨_, rfl⟩
                  obtain ⟨am, ham⟩ : ∃ x, x = a.m := ⟨_, rfl⟩
                  rw [← hae] at he0 he1 q3 htk
                  rw [← ham] at q2
                  have HTK := Lib.hid htk
                  have hE0 := Blk.new w4 70 #[.int .i64 f, .int .i64 tt, .int .i64 am, .int .i64 ae]
                  have e0 := hE0.cell 0
                  have e1 := hE0.cell 1
                  have e3 := hE0.cell 3
                  have hbx4 := Lib.hid (hb4.alloc hz4 (.cells #[.int .i64 f, .int .i64 tt, .int .i64 am, .int .i64 ae] 70))
                  have hgat : ga < w4.heap.size := by omega
                  clear hE0 hX hZ hf htt hae ham ha hga2 htk hbd hst ho4 hlq hb4 hbw4
                  by_cases hfi : f = i
                  · have hfi1 : ((f : Int) == (i : Int)) = true := by simp [hfi]
                    have HFI := Lib.hid hfi
                    clear hfi
                    cases Z with
                    | none =>
                      simp only [Option.getD_none, farV] at ct
                      go_wp2_with fail
                      go_quiet (fail)
                      go_wp2_with fail
                      go_roundw
                      case rel => exact ⟨q + 1, by omega, by go_num, by rw [HTK.out, if_pos HFI.out], below_drewN hbx4.out _⟩
                      case measure => simp [intOf]; omega
                    | some z =>
                      have hz1 := hbt z rfl
                      simp only [Option.getD_some] at ct
                      have hzf : z < 1152921504606846976 := by omega
                      have hws : IntKind.i64.wrap (z + ae) = z + ae := IntWalk.i64_in _ (by omega)
                      cases X with
                      | none =>
                        have hlt9 : z + ae < 1152921504606846976 := by omega
                        have hf9 : (none : Option Int).getD farV = 1152921504606846976 := rfl
                        rw [hf9]
                        go_wp2_with fail
                        go_quiet (fail)
                        go_wp2_with fail
                        go_quiet (fail)
                        go_wp2_with fail
                        go_roundw
                        case rel => exact ⟨q + 1, by omega, by go_num, by rw [HTK.out, if_pos HFI.out]; rfl, by first | exact below_drewN (below_drewN hbx4.out _) _ | exact below_drewN hbx4.out _ | exact (below_drewN hbx4.out _).drew⟩
                        case measure => simp [intOf]; omega
                      | some x =>
                        rw [show (some x : Option Int).getD farV = x from rfl]
                        by_cases hlt9 : z + ae < x
                        · have hb9 : bestO (some x) (z + ae) = true := decide_eq_true hlt9
                          have HB9 := Lib.hid hb9
                          clear hb9
                          go_wp2_with fail
                          go_quiet (fail)
                          go_wp2_with fail
                          go_quiet (fail)
                          go_wp2_with fail
                          go_roundw
                          case rel => exact ⟨q + 1, by omega, by go_num, by rw [HTK.out, if_pos HFI.out]; show _ = Value.int .i64 ((if bestO (some x) (z + ae) = true then some (z + ae) else some x).getD farV); rw [if_pos HB9.out]; rfl, by first | exact below_drewN (below_drewN hbx4.out _) _ | exact below_drewN hbx4.out _ | exact (below_drewN hbx4.out _).drew⟩
                          case measure => simp [intOf]; omega
                        · have hb9 : ¬ bestO (some x) (z + ae) = true := by
                            show ¬ (decide (z + ae < x) = true)
                            simpa using hlt9
                          have HB9 := Lib.hid hb9
                          clear hb9
                          go_wp2_with fail
                          go_quiet (fail)
                          go_wp2_with fail
                          go_roundw
                          case rel => exact ⟨q + 1, by omega, by go_num, by rw [HTK.out, if_pos HFI.out]; show _ = Value.int .i64 ((if bestO (some x) (z + ae) = true then some (z + ae) else some x).getD farV); rw [if_neg HB9.out]; rfl, below_drewN hbx4.out _⟩
                          case measure => simp [intOf]; omega
                  · have hfi1 : ((f : Int) == (i : Int)) = false := by simp; omega
                    have HFI := Lib.hid hfi
                    clear hfi
                    go_wp2_with fail
                    go_quiet (fail)
                    go_wp2_with fail
                    go_roundw
                    case rel => exact ⟨q + 1, by omega, by go_num, by rw [HTK.out, if_neg HFI.out], below_drewN hbx4.out _⟩
                    case measure => simp [intOf]; omega
                · obtain rfl : q = n := by omega
                  have hfull : (l.take q).foldl (eS (exO l k t r) i) none = og (exO l k t (r + 1)) i := by
                    rw [List.take_of_length_le (by rw [HL.out]; exact Nat.le_refl _), exO_eS HG.out t r hlt3]
                  rw [hfull]
                  obtain ⟨y, hy⟩ : ∃ y, y = (og (exO l k t (r + 1)) i).getD farV := ⟨_, rfl⟩
                  have HY := Lib.hid hy
                  rw [← hy]
                  have HO4 := Lib.hid (HO3.out.below HB4.out (by rw [← HT3.out]; exact Nat.le_refl _))
                  have HBB := Lib.hid (HB3.out.trans (HB4.out.mono hz3))
                  have hzT : T ≤ w4.heap.size := by omega
                  clear hy hfull hb4
                  go_wp2_with (at_builtin; go_loud (refine wpList_push rfl _ _ _ rfl T 1 2 (.int .i64 0) 8 Try.underlying35 (by kernel_rfl) rfl (by omega) icell w4 #[.int .i64 y] A2 i cap2 _ (by simp) rfl HO4.out 1 [y] rfl rfl _ rfl rfl (by simp [Value.oneCell']) (by unfold maxLen; omega) (by omega) (by omega) ?_; intro A3 cap3 w5 hown3 hgrow hloc))
                  go_roundw
                  case rel => exact ⟨i + 1, A3, cap3, by omega, by go_num, rfl, (HBB.out.alloc hzT _).grown hgrow (by rw [size_alloc']; omega) (fun g hg => by have := (HO4.out.lt g hg).1; omega), by rw [range_snoc_map, ← HY.out]; exact hown3⟩
                  case measure => simp [intOf]; omega
            · obtain rfl : i = k := by omega
              have ho4 := HO3.out
              rw [refL_range (exO_length l i t (r + 1))] at ho4
              have HO4 := Lib.hid (ho4.weaken (show S + 1 ≤ T by omega))
              clear ho4
              go_wp2_with fail
              go_roundw
              case rel => exact ⟨r + 1, _, _, by omega, by go_num, rfl, HB.out.trans (HB3.out.mono hz), HK3.out, HO4.out⟩
              case measure => simp [intOf]; omega
        · obtain rfl : r = arcs := by omega
          have hlq : at_ < (refL (exO l k t r)).length := by rw [refL_length, exO_length]; exact hat
          obtain ⟨g1, rfl, hg1, hg1lt, cs, fs⟩ := HO.out.cell1 (f := fun x => .int .i64 x) (k := at_) hlq
          rw [← getD_at _ at_ hlq 0, refL_at _ _ (by rw [exO_length]; exact hat)] at cs
          clear hlq
          go_wp2_with fail
          go_ret
          exact ⟨rfl, HB.out⟩
end Go.Proofs.Ytfaifadfilndmaa
