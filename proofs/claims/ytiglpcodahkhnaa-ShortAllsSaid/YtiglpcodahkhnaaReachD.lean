/- Two lists the same; does it get shorter for ever; how far, and whether there is a walk. Conditions: as they stand. -/
import Derived.Test.YtiglpcodahkhnaaReachC
import Derived.Test.YtiglpcodahkhnaaDiffer
import Derived.Deep.RegionHeld3
namespace Go.Proofs.Ytiglpcodahkhnaa
open Go.RowKit

theorem ne_of_at {α : Type} {l l' : List α} {k : Nat} (h1 : k < l.length) (h2 : k < l'.length) (h : l[k] ≠ l'[k]) : l ≠ l' := fun he => by
  subst he
  exact h rfl
theorem take_more {α : Type} {l l' : List α} {k : Nat} (h1 : k < l.length) (h2 : k < l'.length) (h : l.take k = l'.take k) (he : l[k] = l'[k]) : l.take (k + 1) = l'.take (k + 1) := by
  rw [List.take_succ_eq_append_getElem h1, List.take_succ_eq_append_getElem h2, h, he]

set_option maxRecDepth 100000 in
theorem Longs_any (A A' : Option Addr) (n c c' : Nat) (l l' : List Int) (B B' : Nat) (w : World) (hl : l.length = n) (hl' : l'.length = n) (hn : n ≤ maxLen) (hr : Els w B 1 icell A l) (hr' : Els w B' 1 icell A' l') :
    Calls Try.prog 22 #[.slice A n c, .slice A' n c'] w fun e w' => e = .returned (.bool (decide (l = l'))) ∧ ∃ m, w' = w.drewN m := by
  unfold maxLen at hn
  have HL := Lib.hid hl
  have HL' := Lib.hid hl'
  clear hl hl'
  go_enter Try.func22, Try.ntmps22
  go_wp2_with fail
  go_loopw [5] (fun i wr => ∃ k m : Nat, k ≤ n ∧ i = .int .i64 k ∧ wr = w.drewN m ∧ l.take k = l'.take k) (fun i _ => n - (intOf i).toNat)
  case atStart => exact ⟨0, 0, by omega, rfl, rfl, rfl⟩
  case round =>
    obtain ⟨k, m, hk, rfl, rfl, he⟩ := hrel
    by_cases hlt : k < n
    · have hkl : k < l.length := by rw [HL.out]; exact hlt
      have hkl' : k < l'.length := by rw [HL'.out]; exact hlt
      obtain ⟨b, off, rfl, _, g0⟩ := hr.at1 hkl
      obtain ⟨b', off', rfl, _, g1⟩ := hr'.at1 hkl'
      by_cases hxy : l[k] = l'[k]
      · have HT := Lib.hid (take_more hkl hkl' he hxy)
        rw [← hxy] at g1
        generalize l[k] = x at g0 g1
        clear hr hr' he hxy
        have hx : (x != x) = false := by simp
        go_wp2_with fail
        go_quiet (fail)
        go_wp2_with fail
        refine ⟨⟨k + 1, m + nq, by omega, by go_num, by first | rfl | rw [World.drewN_drewN], HT.out⟩, by simp [intOf]; omega⟩
      · have HN := Lib.hid (ne_of_at hkl hkl' hxy)
        have hx : (l[k] != l'[k]) = true := by simpa using hxy
        generalize l[k] = x at g0 hx
        generalize l'[k] = y at g1 hx
        clear hr hr' he hxy
        go_wp2_with fail
        go_quiet (fail)
        go_wp2_with fail
        go_ret
        exact ⟨ret_bool (by rw [decide_eq_false HN.out]), m + nq, by first | rfl | rw [World.drewN_drewN]⟩
    · obtain rfl : k = n := by omega
      have HE : Hid (l = l') := Lib.hid (by rw [List.take_of_length_le (by rw [HL.out]; omega), List.take_of_length_le (by rw [HL'.out]; omega)] at he; exact he)
      clear he
      go_wp2_with fail
      go_ret
      exact ⟨ret_bool (by rw [decide_eq_true HE.out]), m, rfl⟩

set_option maxRecDepth 100000 in
theorem bools_any (A A' : Option Addr) (n c c' : Nat) (l l' : List Bool) (B B' : Nat) (w : World) (hl : l.length = n) (hl' : l'.length = n) (hn : n ≤ maxLen) (hr : Els w B 1 bcell A l) (hr' : Els w B' 1 bcell A' l') :
    Calls Try.prog 23 #[.slice A n c, .slice A' n c'] w fun e w' => e = .returned (.bool (decide (l = l'))) ∧ ∃ m, w' = w.drewN m := by
  unfold maxLen at hn
  have HL := Lib.hid hl
  have HL' := Lib.hid hl'
  clear hl hl'
  go_enter Try.func23, Try.ntmps23
  go_wp2_with fail
  go_loopw [5] (fun i wr => ∃ k m : Nat, k ≤ n ∧ i = .int .i64 k ∧ wr = w.drewN m ∧ l.take k = l'.take k) (fun i _ => n - (intOf i).toNat)
  case atStart => exact ⟨0, 0, by omega, rfl, rfl, rfl⟩
  case round =>
    obtain ⟨k, m, hk, rfl, rfl, he⟩ := hrel
    by_cases hlt : k < n
    · have hkl : k < l.length := by rw [HL.out]; exact hlt
      have hkl' : k < l'.length := by rw [HL'.out]; exact hlt
      obtain ⟨b, off, rfl, _, g0⟩ := hr.at1 (f := fun x => .bool x) hkl
      obtain ⟨b', off', rfl, _, g1⟩ := hr'.at1 (f := fun x => .bool x) hkl'
      by_cases hxy : l[k] = l'[k]
      · have HT := Lib.hid (take_more hkl hkl' he hxy)
        rw [← hxy] at g1
        generalize l[k] = x at g0 g1
        clear hr hr' he hxy
        cases x <;> (
        go_wp2_with fail
        go_quiet (fail)
        go_wp2_with fail
        refine ⟨⟨k + 1, m + nq, by omega, by go_num, by first | rfl | rw [World.drewN_drewN], HT.out⟩, by simp [intOf]; omega⟩)
      · have HN := Lib.hid (ne_of_at hkl hkl' hxy)
        have hx : (l[k] != l'[k]) = true := by simpa using hxy
        generalize l[k] = x at g0 hx
        generalize l'[k] = y at g1 hx
        clear hr hr' he hxy
        cases x <;> cases y <;> first | exact absurd hx (by decide) | skip
        all_goals
          clear hx
          go_wp2_with fail
          go_quiet (fail)
          go_wp2_with fail
          go_ret
          exact ⟨ret_bool (by rw [decide_eq_false HN.out]), m + nq, by first | rfl | rw [World.drewN_drewN]⟩
    · obtain rfl : k = n := by omega
      have HE : Hid (l = l') := Lib.hid (by rw [List.take_of_length_le (by rw [HL.out]; omega), List.take_of_length_le (by rw [HL'.out]; omega)] at he; exact he)
      clear he
      go_wp2_with fail
      go_ret
      exact ⟨ret_bool (by rw [decide_eq_true HE.out]), m, rfl⟩

theorem refL_inj {O O' : List (Option Int)} (h : ∀ v x, og O v = some x → x < farV) (h' : ∀ v x, og O' v = some x → x < farV) (hl : O.length = O'.length) (he : refL O = refL O') : O = O' := by
  apply List.ext_getElem hl
  intro v h1 h2
  have hv : (refL O).getD v 0 = (refL O').getD v 0 := by rw [he]
  rw [refL_at _ _ h1, refL_at _ _ h2] at hv
  have e1 : og O v = O[v] := by unfold og; simp [List.getD_eq_getElem?_getD, h1]
  have e2 : og O' v = O'[v] := by unfold og; simp [List.getD_eq_getElem?_getD, h2]
  have k1 := h v
  have k2 := h' v
  rw [← e1, ← e2]
  cases hA : og O v <;> cases hB : og O' v <;> rw [hA, hB] at hv <;> simp only [Option.getD_none, Option.getD_some] at hv
  · have := k2 _ hB; omega
  · have := k1 _ hA; omega
  · rw [hv]
theorem sinks_eq {l : List Arc} {N s : Nat} (hg : ∀ a ∈ l, GoodA N a) (hs : s < N) (hN : N ≤ 10) : decide (refL (refO l N s N) = refL (refO l N s (N + 1))) = fromOk l N s := by
  have hb : ∀ r, r ≤ 11 → ∀ v x, og (refO l N s r) v = some x → x < farV := fun r hr v x h => by
    have := ref_bound0 hg hs hr h
    unfold farV; omega
  cases hf : fromOk l N s with
  | true =>
    obtain ⟨r, hr, hc⟩ := List.any_eq_true.1 hf
    have hc' : chgP (progO l N s r) l = false := by simpa using hc
    rw [(prog_ref hg hs hc').2]
    simp
  | false =>
    rw [decide_eq_false]
    intro he
    have := refL_inj (hb N (by omega)) (hb (N + 1) (by omega)) (by rw [refO_length, refO_length]) he
    have hc := ref_prog hg hs this.symm
    have : fromOk l N s = true := List.any_eq_true.2 ⟨N, List.mem_range.2 (by omega), by rw [hc]; rfl⟩
    rw [hf] at this
    cases this

set_option maxRecDepth 100000 in
set_option maxHeartbeats 1000000 in
theorem ref_Sinks (N s : Nat) (A : Option Addr) (n c : Nat) (l : List Arc) (w : World) (hl : l.length = n) (hg : ∀ a ∈ l, GoodA N a) (hN : N ≤ 10) (hn : n ≤ 30) (hs : s < N) (hr : Els w w.heap.size 4 Arc.cells A l) :
    Calls Try.prog 20 #[.agg #[.int .i64 N, .slice A n c], .int .i64 s] w fun e w' => e = .returned (.bool (!fromOk l N s)) ∧ Below w.heap.size w w' := by
  rw [← sinks_eq hg hs hN]
  have HREACH : Hid (∀ (arcs : Nat) (v : World), arcs ≤ 11 → Below w.heap.size w v → Calls Try.prog 60 #[.agg #[.int .i64 N, .slice A n c], .int .i64 s, .int .i64 arcs] v fun e w' => ∃ A0 cap, e = .returned (.slice A0 N cap) ∧ Below v.heap.size v w' ∧ Els w' w'.heap.size 1 icell A0 (refL (refO l N s arcs))) := Lib.hid (fun arcs v ha hb =>
    ref_Reach N s arcs A n c l v hl hg hN hn hs ha ((hr.below hb).more hb.size))
  have HR1 : Hid (∀ v : World, Below w.heap.size w v → Calls Try.prog 60 #[.agg #[.int .i64 N, .slice A n c], .int .i64 s, .int .i64 N] v fun e w' => ∃ A0 cap, e = .returned (.slice A0 N cap) ∧ Below v.heap.size v w' ∧ Els w' w'.heap.size 1 icell A0 (refL (refO l N s N))) := Lib.hid (fun v hb => HREACH.out N v (by omega) hb)
  have HR2 : Hid (∀ v : World, Below w.heap.size w v → Calls Try.prog 60 #[.agg #[.int .i64 N, .slice A n c], .int .i64 s, .int .i64 ((N : Int) + 1)] v fun e w' => ∃ A0 cap, e = .returned (.slice A0 N cap) ∧ Below v.heap.size v w' ∧ Els w' w'.heap.size 1 icell A0 (refL (refO l N s (N + 1)))) := Lib.hid (fun v hb => by
    have := HREACH.out (N + 1) v (by omega) hb
    rwa [show ((N + 1 : Nat) : Int) = (N : Int) + 1 from by omega] at this)
  clear HREACH
  have hw : IntKind.i64.wrap ((N : Int) + 1) = (N : Int) + 1 := IntWalk.i64_in _ (by omega)
  clear hl hg hr
  go_enter Try.func20, Try.ntmps20
  go_wp2
  go_region_held3 (fun w' => w'.cell? ⟨w.heap.size, 0, none⟩ = some (.int .i64 N) ∧ w'.cell? ⟨w.heap.size, 1, none⟩ = some (.slice A n c) ∧ Below w.heap.size w w' ∧ w.heap.size < w'.heap.size)
    (first | exact ⟨c0, c1, below_drewN cb _, cs⟩ | exact ⟨(Blk.new w 31 #[.int .i64 N, .slice A n c]).cell 0, (Blk.new w 31 #[.int .i64 N, .slice A n c]).cell 1, ((Below.refl _ _).alloc (Nat.le_refl _) _).drew, by simp⟩ | exact ⟨(hb2.cell (p := ⟨w.heap.size, 0, none⟩) cs).trans c0, (hb2.cell (p := ⟨w.heap.size, 1, none⟩) cs).trans c1, cb.trans (hb2.mono (Nat.le_of_lt cs)), Nat.lt_of_lt_of_le cs hb2.size⟩ | exact ⟨(hb1.cell (p := ⟨w.heap.size, 0, none⟩) cs).trans c0, (hb1.cell (p := ⟨w.heap.size, 1, none⟩) cs).trans c1, cb.trans (hb1.mono (Nat.le_of_lt cs)), Nat.lt_of_lt_of_le cs hb1.size⟩ | exact ⟨c0, c1, cb, cs⟩)
    (first
      | (go_at_call 60; obtain ⟨c0, c1, cb, cs⟩ : _ ∧ _ ∧ Below w.heap.size w _ ∧ _ := (by assumption); (first | (with_reducible refine (HR1.out _ cb).mono ?_; rintro e w' ⟨A1, cap1, rfl, hb1, E1⟩) | (with_reducible refine (HR2.out _ cb).mono ?_; rintro e w' ⟨A2, cap2, rfl, hb2, E2⟩)))
      | (go_at_call 22; obtain ⟨c0, c1, cb, cs⟩ : _ ∧ _ ∧ Below w.heap.size w _ ∧ _ := (by assumption); with_reducible refine (Longs_any A1 A2 N cap1 cap2 _ _ _ _ _ (by rw [refL_length, refO_length]) (by rw [refL_length, refO_length]) (by unfold maxLen; omega) (E1.below hb2) E2).mono ?_; rintro e w' ⟨rfl, m3, rfl⟩))
  obtain ⟨_, _, hf, _⟩ : _ ∧ _ ∧ Below w.heap.size w (w'.drewN m3) ∧ _ := (by assumption)
  go_wp2
  go_ret
  exact ⟨rfl, hf⟩

def thereB (x : Option Int) : Bool := x.isSome
theorem farL_take {O : List (Option Int)} {k : Nat} (hk : k < O.length) : farL (O.take (k + 1)) = farL (O.take k) ++ [(O[k]).getD 0] := by
  unfold farL
  rw [List.take_succ_eq_append_getElem hk, List.map_append]
  rfl
theorem thereL_take {O : List (Option Int)} {k : Nat} (hk : k < O.length) : thereL (O.take (k + 1)) = thereL (O.take k) ++ [(O[k]).isSome] := by
  unfold thereL
  rw [List.take_succ_eq_append_getElem hk, List.map_append]
  rfl
set_option maxRecDepth 100000 in
set_option maxHeartbeats 1000000 in
theorem law_reach (N s : Nat) (A : Option Addr) (n c : Nat) (l : List Arc) (w : World) (hl : l.length = n) (hg : ∀ a ∈ l, GoodA N a) (hN : N ≤ 10) (hn : n ≤ 30) (hs : s < N) (hr : Els w w.heap.size 4 Arc.cells A l) :
    Calls Try.prog 21 #[.agg #[.int .i64 N, .slice A n c], .int .i64 s] w fun e w' => ∃ A1 c1 A2 c2, e = .returned (.tuple #[.slice A1 N c1, .slice A2 N c2]) ∧ Below w.heap.size w w' ∧ Els w' w'.heap.size 1 icell A1 (farL (refO l N s N)) ∧ Els w' w'.heap.size 1 bcell A2 (thereL (refO l N s N)) := by
  obtain ⟨O, hO⟩ : ∃ O, O = refO l N s N := ⟨_, rfl⟩
  have hbd : ∀ v x, og O v = some x → x ≠ farV := fun v x h => by
    have := ref_bound0 hg hs (show N ≤ 11 by omega) (by rw [← hO]; exact h)
    unfold farV; omega
  have hOl : O.length = N := by rw [hO, refO_length]
  have HB0 := Lib.hid ((Below.refl w.heap.size w).alloc (Nat.le_refl _) (.cells #[.int .i64 N, .slice A n c] 31))
  have HK0 := Lib.hid (Blk.new w 31 #[.int .i64 N, .slice A n c])
  have HC : Hid (Calls Try.prog 60 #[.agg #[.int .i64 N, .slice A n c], .int .i64 s, .int .i64 N] (w.alloc (.cells #[.int .i64 N, .slice A n c] 31)) fun e w' => ∃ A0 cap, e = .returned (.slice A0 N cap) ∧ Below (w.alloc (.cells #[.int .i64 N, .slice A n c] 31)).heap.size (w.alloc (.cells #[.int .i64 N, .slice A n c] 31)) w' ∧ Els w' w'.heap.size 1 icell A0 (refL O)) := Lib.hid (by
    rw [hO]
    exact ref_Reach N s N A n c l _ hl hg hN hn hs (by omega) ((hr.below HB0.out).more HB0.out.size))
  rw [← hO]
  have HBD := Lib.hid hbd
  have HOL := Lib.hid hOl
  have c0 := HK0.out.cell 0
  clear hl hg hr hO hbd hOl
  go_enter Try.func21, Try.ntmps21
  go_wp2_with fail
  refine HC.out.mono ?_
  clear HC
  rintro e v ⟨A0, cap, rfl, hb, e0⟩
  have HB := Lib.hid (HB0.out.trans (hb.mono HB0.out.size))
  have HE := Lib.hid e0
  clear hb e0 HB0 HK0 c0
  have hz := HB.out.size
  go_wp2_with fail
  go_loopw [16, 6, 7] (fun s16 s6 s7 wr => ∃ (k : Nat) (A1 : Option Addr) (c1 : Nat) (A2 : Option Addr) (c2 : Nat), k ≤ N ∧ s16 = .int .i64 k ∧ s6 = .slice A1 k c1 ∧ s7 = .slice A2 k c2 ∧ Below v.heap.size v wr ∧ Own wr v.heap.size 2 1 icell A1 c1 (farL (O.take k)) ∧ Own wr v.heap.size 4 1 bcell A2 c2 (thereL (O.take k))) (fun s16 _ _ _ => N - (intOf s16).toNat)
  case atStart => exact ⟨0, none, 0, none, 0, by omega, rfl, rfl, rfl, Below.refl _ _, Own.nil _ _ _ (fun _ => rfl), Own.nil _ _ _ (fun _ => rfl)⟩
  case round =>
    rename World => wr
    obtain ⟨k, A1, c1, A2, c2, hk, rfl, rfl, rfl, hb, ho1, ho2⟩ := hrel
    have hzr := hb.size
    have HBr := Lib.hid hb
    have HO1 := Lib.hid ho1
    have HO2 := Lib.hid ho2
    by_cases hlt : k < N
    · have hkO : k < O.length := by rw [HOL.out]; exact hlt
      have hkl : k < (refL O).length := by rw [refL_length]; exact hkO
      obtain ⟨b, off, rfl, hbb, g0⟩ := (HE.out.below hb).at1 hkl
      have H1 := Lib.hid (farL_take hkO)
      have H2 := Lib.hid (thereL_take hkO)
      have hL1 : (farL (O.take k)).length = k := by rw [farL_length, List.length_take]; omega
      have hL2 : (thereL (O.take k)).length = k := by rw [thereL_length, List.length_take]; omega
      have HL1 := Lib.hid hL1
      have HL2 := Lib.hid hL2
      have hv : (refL O)[k] = (O[k]).getD farV := by simp [refL]
      have hbk : ∀ x, O[k] = some x → x ≠ farV := fun x h => HBD.out k x (by unfold og; rw [List.getD_eq_getElem?_getD, List.getElem?_eq_getElem hkO]; exact h)
      rw [hv] at g0
      obtain ⟨L1, hL1'⟩ : ∃ L1, L1 = farL (O.take k) := ⟨_, rfl⟩
      obtain ⟨L2, hL2'⟩ : ∃ L2, L2 = thereL (O.take k) := ⟨_, rfl⟩
      rw [← hL1'] at HO1 HL1 H1
      rw [← hL2'] at HO2 HL2 H2
      have HN1 := Lib.hid H1
      have HN2 := Lib.hid H2
      generalize O[k] = x at g0 H1 H2 hbk
      clear hb ho1 ho2 hL1 hL2 hv hL1' hL2' HN1 HN2
      cases x with
      | none =>
        simp only [Option.getD_none, farV] at g0
        clear hbk
        go_wp2_with (first
          | (at_builtin; go_loud (refine wpList_push rfl (.tmp 22) (.tmp 23) _ rfl v.heap.size 1 2 (.int .i64 0) 8 Try.underlying22 (by kernel_rfl) rfl (by omega) icell wr #[.int .i64 0] A1 k c1 L1 HL1.out rfl HO1.out 1 [(0 : Int)] rfl rfl _ rfl rfl (by simp [Value.oneCell']) (by unfold maxLen; omega) (by omega) (by omega) ?_; intro A3 c3 w3 hown3 hgrow3 hloc3; have ho4 := (HO2.out.alloc (.cells #[.int .i64 0] 2)).kept hgrow3 (HO2.out.apart HO1.out (by decide)); have HO4 := Lib.hid ho4; have hb3 := (HBr.out.alloc hzr (.cells #[.int .i64 0] 2)).grown hgrow3 (by rw [size_alloc']; omega) (fun g hg => (HO1.out.lt g hg).1); have HB3 := Lib.hid hb3; have hz3 := hb3.size; clear ho4 hb3))
          | (at_builtin; go_loud (refine wpList_push rfl (.tmp 25) (.tmp 26) _ rfl v.heap.size 1 4 (.bool false) 1 Try.underlying32 (by kernel_rfl) rfl (by omega) bcell w3 #[.bool false] A2 k c2 L2 HL2.out rfl HO4.out 1 [false] rfl rfl _ rfl rfl (by simp [Value.oneCell']) (by unfold maxLen; omega) (by omega) (by omega) ?_; intro A5 c5 w5 hown5 hgrow5 hloc5)))
        go_roundw
        case rel => exact ⟨k + 1, A3, c3, A5, c5, by omega, by go_num, rfl, rfl, (HB3.out.alloc hz3 _).grown hgrow5 (by rw [size_alloc']; omega) (fun g hg => (HO4.out.lt g hg).1), by rw [H1.out]; exact (hown3.alloc _).kept hgrow5 (hown3.apart HO4.out (by decide)), by rw [H2.out]; exact hown5⟩
        case measure => simp [intOf]; omega
      | some z =>
        simp only [Option.getD_some] at g0
        have hz0 : (z == 1152921504606846976) = false := by simpa [farV] using hbk z rfl
        clear hbk
        go_wp2_with (first
          | (at_builtin; go_loud (refine wpList_push rfl (.tmp 28) (.tmp 30) _ rfl v.heap.size 1 2 (.int .i64 0) 8 Try.underlying22 (by kernel_rfl) rfl (by omega) icell wr #[.int .i64 z] A1 k c1 L1 HL1.out rfl HO1.out 1 [z] rfl rfl _ rfl rfl (by simp [Value.oneCell']) (by unfold maxLen; omega) (by omega) (by omega) ?_; intro A3 c3 w3 hown3 hgrow3 hloc3; have ho4 := (HO2.out.alloc (.cells #[.int .i64 z] 2)).kept hgrow3 (HO2.out.apart HO1.out (by decide)); have HO4 := Lib.hid ho4; have hb3 := (HBr.out.alloc hzr (.cells #[.int .i64 z] 2)).grown hgrow3 (by rw [size_alloc']; omega) (fun g hg => (HO1.out.lt g hg).1); have HB3 := Lib.hid hb3; have hz3 := hb3.size; clear ho4 hb3))
          | (at_builtin; go_loud (refine wpList_push rfl (.tmp 32) (.tmp 33) _ rfl v.heap.size 1 4 (.bool false) 1 Try.underlying32 (by kernel_rfl) rfl (by omega) bcell w3 #[.bool true] A2 k c2 L2 HL2.out rfl HO4.out 1 [true] rfl rfl _ rfl rfl (by simp [Value.oneCell']) (by unfold maxLen; omega) (by omega) (by omega) ?_; intro A5 c5 w5 hown5 hgrow5 hloc5)))
        go_roundw
        case rel => exact ⟨k + 1, A3, c3, A5, c5, by omega, by go_num, rfl, rfl, (HB3.out.alloc hz3 _).grown hgrow5 (by rw [size_alloc']; omega) (fun g hg => (HO4.out.lt g hg).1), by rw [H1.out]; exact (hown3.alloc _).kept hgrow5 (hown3.apart HO4.out (by decide)), by rw [H2.out]; exact hown5⟩
        case measure => simp [intOf]; omega
    · obtain rfl : k = N := by omega
      have hT : O.take k = O := List.take_of_length_le (by rw [HOL.out]; omega)
      rw [hT] at HO1 HO2
      clear hb ho1 ho2 hT
      go_wp2_with fail
      refine bodyPost_ret (v := .tuple #[.slice A1 k c1, .slice A2 k c2]) (by simp [results, Try.results21, go_sem]) rfl ?_
      exact ⟨A1, c1, A2, c2, rfl, HB.out.trans (HBr.out.mono hz), HO1.out.els, HO2.out.els⟩
end Go.Proofs.Ytiglpcodahkhnaa
