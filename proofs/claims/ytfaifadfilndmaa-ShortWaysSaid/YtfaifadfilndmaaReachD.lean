/- Two lists the same; does it get shorter for ever; how far, and whether there is a walk. Conditions: as they stand. -/
import Derived.Test.YtfaifadfilndmaaReachC
import Derived.Test.YtfaifadfilndmaaDiffer
import Derived.Deep.RegionHeld3
namespace Go.Proofs.Ytfaifadfilndmaa
open Go.RowKit

theorem ne_of_at {α : Type} {l l' : List α} {k : Nat} (h1 : k < l.length) (h2 : k < l'.length) (h : l[k] ≠ l'[k]) : l ≠ l' := fun he => by
  subst he
  exact h rfl
theorem take_more {α : Type} {l l' : List α} {k : Nat} (h1 : k < l.length) (h2 : k < l'.length) (h : l.take k = l'.take k) (he : l[k] = l'[k]) : l.take (k + 1) = l'.take (k + 1) := by
  rw [List.take_succ_eq_append_getElem h1, List.take_succ_eq_append_getElem h2, h, he]

set_option maxRecDepth 100000 in
theorem Longs_any (A A' : Option Addr) (n c c' : Nat) (l l' : List Int) (B B' : Nat) (w : World) (hl : l.length = n) (hl' : l'.length = n) (hn : n ≤ maxLen) (hr : Els w B 1 icell A l) (hr' : Els w B' 1 icell A' l') :
    Calls Try.prog 60 #[.slice A n c, .slice A' n c'] w fun e w' => e = .returned (.bool (decide (l = l'))) ∧ ∃ m, w' = w.drewN m := by
  unfold maxLen at hn
  have HL := Lib.hid hl
  have HL' := Lib.hid hl'
  clear hl hl'
  go_enter Try.func60, Try.ntmps60
  go_wp2_with fail
  go_loopw [5] (fun i wr => ∃ k m : Nat, k ≤ n ∧ i = .int .i64 k ∧ wr = w.drewN m ∧ l.take k = l'.take k) (fun i _ => n - (intOf i).toNat)
  case atStart => exact ⟨0, 0, by omega, rfl, rfl, rfl⟩
  case round =>
    obtain ⟨k, m, hk, rfl, rfl, he⟩ := hrel
    by_cases hlt : k < n
    · have hkl : k < l.length := by rw [HL.out]; exact hlt
      have hkl' : k < l'.length := by rw [HL'.out]; exact hlt
      obtain ⟨b, off, rfl, _, g0⟩ := hr.at1 hkl
      obtain ⟨b', off', rfl, _, g1⟩ := hr'.at1 hkl'
      by_cases hxy : l[k] = l'[k]
      · have HT := Lib.hid (take_more hkl hkl' he hxy)
        rw [← hxy] at g1
        generalize l[k] = x at g0 g1
        clear hr hr' he hxy
        have hx : (x != x) = false := by simp
        go_wp2_with fail
        go_quiet (fail)
        go_wp2_with fail
        refine ⟨⟨k + 1, m + nq, by omega, by go_num, by first | rfl | rw [World.drewN_drewN], HT.out⟩, by simp [intOf]; omega⟩
      · have HN := Lib.hid (ne_of_at hkl hkl' hxy)
        have hx : (l[k] != l'[k]) = true := by simpa using hxy
        generalize l[k] = x at g0 hx
        generalize l'[k] = y at g1 hx
        clear hr hr' he hxy
        go_wp2_with fail
        go_quiet (fail)
        go_wp2_with fail
        go_ret
        exact ⟨ret_bool (by rw [decide_eq_false HN.out]), m + nq, by first | rfl | rw [World.drewN_drewN]⟩
    · obtain rfl : k = n := by omega
      have HE : Hid (l = l') := Lib.hid (by rw [List.take_of_length_le (by rw [HL.out]; omega), List.take_of_length_le (by rw [HL'.out]; omega)] at he; exact he)
      clear he
      go_wp2_with fail
      go_ret
      exact ⟨ret_bool (by rw [decide_eq_true HE.out]), m, rfl⟩

theorem refL_inj {O O' : List (Option Int)} (h : ∀ v x, og O v = some x → x < farV) (h' : ∀ v x, og O' v = some x → x < farV) (hl : O.length = O'.length) (he : refL O = refL O') : O = O' := by
  apply List.ext_getElem hl
  intro v h1 h2
  have hv : (refL O).getD v 0 = (refL O').getD v 0 := by rw [he]
  rw [refL_at _ _ h1, refL_at _ _ h2] at hv
  have e1 : og O v = O[v] := by unfold og; simp [List.getD_eq_getElem?_getD, h1]
  have e2 : og O' v = O'[v] := by unfold og; simp [List.getD_eq_getElem?_getD, h2]
  have k1 := h v
  have k2 := h' v
  rw [← e1, ← e2]
  cases hA : og O v <;> cases hB : og O' v <;> rw [hA, hB] at hv <;> simp only [Option.getD_none, Option.getD_some] at hv
  · have := k2 _ hB; omega
  · have := k1 _ hA; omega
  · rw [hv]
theorem sinks_eq {l : List Arc} {N s : Nat} (hg : ∀ a ∈ l, GoodA N a) (hs : s < N) (hN : N ≤ 10) : decide (refL (refO l N s N) = refL (refO l N s (N + 1))) = fromOk l N s := by
  have hb : ∀ r, r ≤ 11 → ∀ v x, og (refO l N s r) v = some x → x < farV := fun r hr v x h => by
    have := ref_bound0 hg hs hr h
    unfold farV; omega
  cases hf : fromOk l N s with
  | true =>
    obtain ⟨r, hr, hc⟩ := List.any_eq_true.1 hf
    have hc' : chgP (progO l N s r) l = false := by simpa using hc
    rw [(prog_ref hg hs hc').2]
    simp
  | false =>
    rw [decide_eq_false]
    intro he
    have := refL_inj (hb N (by omega)) (hb (N + 1) (by omega)) (by rw [refO_length, refO_length]) he
    have hc := ref_prog hg hs this.symm
    have : fromOk l N s = true := List.any_eq_true.2 ⟨N, List.mem_range.2 (by omega), by rw [hc]; rfl⟩
    rw [hf] at this
    cases this

set_option maxRecDepth 100000 in
set_option maxHeartbeats 1000000 in
theorem ref_Sinks (N s : Nat) (A : Option Addr) (n c : Nat) (l : List Arc) (w : World) (hl : l.length = n) (hg : ∀ a ∈ l, GoodA N a) (hN : N ≤ 10) (hn : n ≤ 30) (hs : s < N) (hr : Els w w.heap.size 4 Arc.cells A l) :
    Calls Try.prog 35 #[.agg #[.int .i64 N, .slice A n c], .int .i64 s] w fun e w' => e = .returned (.bool (!fromOk l N s)) ∧ Below w.heap.size w w' := by
  rw [← sinks_eq hg hs hN]
  have HREACH : Hid (∀ (arcs : Nat) (v : World), arcs ≤ 11 → Below w.heap.size w v → Calls Try.prog 36 #[.agg #[.int .i64 N, .slice A n c], .int .i64 s, .int .i64 arcs] v fun e w' => ∃ A0 cap, e = .returned (.slice A0 N cap) ∧ Below v.heap.size v w' ∧ Els w' w'.heap.size 1 icell A0 (refL (refO l N s arcs))) := Lib.hid (fun arcs v ha hb =>
    ref_Reach N s arcs A n c l v hl hg hN hn hs ha ((hr.below hb).more hb.size))
  have HR1 : Hid (∀ v : World, Below w.heap.size w v → Calls Try.prog 36 #[.agg #[.int .i64 N, .slice A n c], .int .i64 s, .int .i64 N] v fun e w' => ∃ A0 cap, e = .returned (.slice A0 N cap) ∧ Below v.heap.size v w' ∧ Els w' w'.heap.size 1 icell A0 (refL (refO l N s N))) := Lib.hid (fun v hb => HREACH.out N v (by omega) hb)
  have HR2 : Hid (∀ v : World, Below w.heap.size w v → Calls Try.prog 36 #[.agg #[.int .i64 N, .slice A n c], .int .i64 s, .int .i64 ((N : Int) + 1)] v fun e w' => ∃ A0 cap, e = .returned (.slice A0 N cap) ∧ Below v.heap.size v w' ∧ Els w' w'.heap.size 1 icell A0 (refL (refO l N s (N + 1)))) := Lib.hid (fun v hb => by
    have := HREACH.out (N + 1) v (by omega) hb
    rwa [show ((N + 1 : Nat) : Int) = (N : Int) + 1 from by omega] at this)
  clear HREACH
  have hw : IntKind.i64.wrap ((N : Int) + 1) = (N : Int) + 1 := IntWalk.i64_in _ (by omega)
  clear hl hg hr
  go_enter Try.func35, Try.ntmps35
  go_wp2
  go_region_held3 (fun w' => w'.cell? ⟨w.heap.size, 0, none⟩ = some (.int .i64 N) ∧ w'.cell? ⟨w.heap.size, 1, none⟩ = some (.slice A n c) ∧ Below w.heap.size w w' ∧ w.heap.size < w'.heap.size)
    (first | exact ⟨c0, c1, below_drewN cb _, cs⟩ | exact ⟨(Blk.new w 34 #[.int .i64 N, .slice A n c]).cell 0, (Blk.new w 34 #[.int .i64 N, .slice A n c]).cell 1, ((Below.refl _ _).alloc (Nat.le_refl _) _).drew, by simp⟩ | exact ⟨(hb2.cell (p := ⟨w.heap.size, 0, none⟩) cs).trans c0, (hb2.cell (p := ⟨w.heap.size, 1, none⟩) cs).trans c1, cb.trans (hb2.mono (Nat.le_of_lt cs)), Nat.lt_of_lt_of_le cs hb2.size⟩ | exact ⟨(hb1.cell (p := ⟨w.heap.size, 0, none⟩) cs).trans c0, (hb1.cell (p := ⟨w.heap.size, 1, none⟩) cs).trans c1, cb.trans (hb1.mono (Nat.le_of_lt cs)), Nat.lt_of_lt_of_le cs hb1.size⟩ | exact ⟨c0, c1, cb, cs⟩)
    (first
      | (go_at_call 36; obtain ⟨c0, c1, cb, cs⟩ : _ ∧ _ ∧ Below w.heap.size w _ ∧ _ := (by assumption); (first | (with_reducible refine (HR1.out _ cb).mono ?_; rintro e w' ⟨A1, cap1, rfl, hb1, E1⟩) | (with_reducible refine (HR2.out _ cb).mono ?_; rintro e w' ⟨A2, cap2, rfl, hb2, E2⟩)))
      | (go_at_call 60; obtain ⟨c0, c1, cb, cs⟩ : _ ∧ _ ∧ Below w.heap.size w _ ∧ _ := (by assumption); with_reducible refine (Longs_any A1 A2 N cap1 cap2 _ _ _ _ _ (by rw [refL_length, refO_length]) (by rw [refL_length, refO_length]) (by unfold maxLen; omega) (E1.below hb2) E2).mono ?_; rintro e w' ⟨rfl, m3, rfl⟩))
  obtain ⟨_, _, hf, _⟩ : _ ∧ _ ∧ Below w.heap.size w (w'.drewN m3) ∧ _ := (by assumption)
  go_wp2
  go_ret
  exact ⟨rfl, hf⟩

def thereB (x : Option Int) : Bool := x.isSome
end Go.Proofs.Ytfaifadfilndmaa
