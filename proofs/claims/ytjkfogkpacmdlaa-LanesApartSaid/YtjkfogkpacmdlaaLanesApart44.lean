/- Is a way a way: the reference's walk, of ways that are. Conditions: the edges and the way read as lists. -/
import Derived.Test.YtjkfogkpacmdlaaLanesApart25
import Derived.Test.YtjkfogkpacmdlaaLanesApart8
import Derived.Test.YtjkfogkpacmdlaaLanesApart39
import Derived.Test.YtjkfogkpacmdlaaLanesApart7
import Derived.Test.YtjkfogkpacmdlaaLanesApart15
import Derived.Test.YtjkfogkpacmdlaaLanesApart38
namespace Go.Proofs.Ytjkfogkpacmdlaa
open Go.RowKit Go.Shelf

theorem els_takeW {α : Type} {w : World} {B c : Nat} {f : α → List Value} {A : Option Addr} {l : List α} (h : Els w B c f A l) (k : Nat) : Els w B c f A (l.take k) := fun h0 => by
  obtain ⟨b, off, e, hb, hc⟩ := h (by rw [List.length_take] at h0; omega)
  refine ⟨b, off, e, hb, fun i a ha j u hu => hc i a ?_ j u hu⟩
  rw [List.getElem?_take] at ha
  split at ha
  · exact ha
  · cases ha
theorem hasB_notW {l : List Int} {x : Int} (h : x ∉ l) : hasB l x = false := by
  unfold hasB
  rw [List.any_eq_false]
  intro y hy e
  exact h (by rw [beq_iff_eq] at e; rw [e]; exact hy)
set_option maxRecDepth 100000 in
set_option maxHeartbeats 2000000 in
theorem ref_IsWay (N a b : Nat) (A : Option Addr) (n c : Nat) (es : List Ed) (L : Option Addr) (m cl : Nat) (p : List Int) (w : World) (hl : es.length = n) (hn : n ≤ 45) (hp : p.length = m) (h2 : 2 ≤ m) (hm : m ≤ 20) (hmc : m ≤ cl) (hnd : p.Nodup) (hlow : ∀ x ∈ p, 0 ≤ x ∧ x < N) (hch : ChI es p)
    (hfst : p.getD 0 0 = a) (hlst : p.getD (m - 1) 0 = b) (hre : Els w w.heap.size 3 Ed.cells A es) (hrl : Els w w.heap.size 1 icell L p) :
    Calls Try.prog 8 #[.agg #[.int .i64 N, .slice A n c], .int .i64 a, .int .i64 b, .slice L m cl] w fun e w' => e = .returned (.bool true) ∧ Below w.heap.size w w' := by
  obtain ⟨bL, oL, rfl, hbL, p0⟩ := hrl.at1 (f := fun x : Int => .int .i64 x) (k := 0) (by omega)
  obtain ⟨bL', oL', hLe, _, p1⟩ := hrl.at1 (f := fun x : Int => .int .i64 x) (k := m - 1) (by omega)
  obtain ⟨rfl, rfl⟩ : bL = bL' ∧ oL = oL' := by injection hLe with h; injection h with h1 h2 h3; exact ⟨h1, h2⟩
  rw [← getD_at p 0 (by omega) 0, hfst, Nat.add_zero] at p0
  rw [← getD_at p (m - 1) (by omega) 0, hlst] at p1
  obtain ⟨m1, hm1⟩ : ∃ m1, m1 = m - 1 := ⟨_, rfl⟩
  rw [← hm1] at p1
  have em : IntKind.i64.wrap ((m : Int) - 1) = (m1 : Int) := by rw [IntWalk.i64_in _ (by omega)]; omega
  have hm1m : m1 < m := by omega
  have hm2 : decide ((m : Int) < 2) = false := decide_eq_false (by omega)
  have HNE := fun (i j : Nat) (w1 : World) (hb : Below w.heap.size w w1) => Lib.hid (ref_Near N i j A n c es w1 hl hn ((hre.below hb).more hb.size))
  have hb0 : Below w.heap.size w (w.alloc (.cells #[.int .i64 N, .slice A n c] 24)) := (Below.refl _ w).alloc (Nat.le_refl _) _
  have hk0 : Blk (w.alloc (.cells #[.int .i64 N, .slice A n c] 24)) w.heap.size 24 #[.int .i64 N, .slice A n c] := Blk.new w _ _
  have q0 : (w.alloc (.cells #[.int .i64 N, .slice A n c] 24)).cell? ⟨bL, oL, none⟩ = some (.int .i64 a) := (hb0.cell (by show bL < _; omega)).trans p0
  have q1 : (w.alloc (.cells #[.int .i64 N, .slice A n c] 24)).cell? ⟨bL, oL + m1, none⟩ = some (.int .i64 b) := (hb0.cell (by show bL < _; omega)).trans p1
  have HP := Lib.hid hp
  have HND := Lib.hid hnd
  have HLOW := Lib.hid hlow
  have HCH := Lib.hid hch
  have HRL := Lib.hid hrl
  have HB0 := Lib.hid hb0
  have HK0 := Lib.hid hk0
  clear hl hn hp hnd hlow hch hre hrl hb0 hk0 hfst hlst hLe p0 p1 hm1
  go_enter Try.func8, Try.ntmps8
  go_wp2_with fail
  go_loopw [9] (fun i wr => ∃ k : Nat, k ≤ m ∧ i = .int .i64 k ∧ Below w.heap.size w wr ∧ Blk wr w.heap.size 24 #[.int .i64 N, .slice A n c]) (fun i _ => m - (intOf i).toNat)
  case atStart => exact ⟨0, by omega, rfl, HB0.out, HK0.out⟩
  case round =>
    clear HB0 HK0 q0 q1
    rename World => wr
    obtain ⟨k, hk, rfl, hb, hk0⟩ := hrel
    have HB := Lib.hid hb
    have HK := Lib.hid hk0
    have hsz := hb.size
    by_cases hlt : k < m
    · have hkp : k < p.length := by rw [HP.out]; exact hlt
      obtain ⟨hx0, hx1⟩ := HLOW.out _ (List.getElem_mem hkp)
      obtain ⟨x, hx⟩ : ∃ x : Nat, p[k] = x := ⟨p[k].toNat, by omega⟩
      have hno : hasB (p.take k) (x : Int) = false := hasB_notW fun hmem => by
        obtain ⟨i, hi, he⟩ := List.getElem_of_mem hmem
        rw [List.getElem_take, ← hx] at he
        rw [List.length_take] at hi
        have := (List.getElem_inj (xs := p) (h₀ := by omega) (h₁ := hkp) HND.out).1 he
        omega
      have hhas := Has_any (some ⟨bL, oL, none⟩) k cl (p.take k) (x : Int) wr.heap.size wr.drew (by rw [List.length_take, HP.out]; omega) (by unfold maxLen; omega) (els_takeW ((HRL.out.below hb).more hsz) k)
      rw [hno] at hhas
      obtain ⟨b2, off2, hLe, _, gx⟩ := (HRL.out.below hb).at1 (f := fun x : Int => .int .i64 x) hkp
      obtain ⟨rfl, rfl⟩ : b2 = bL ∧ off2 = oL := by injection hLe with h; injection h with h1 h2 h3; exact ⟨h1.symm, h2.symm⟩
      rw [hx] at gx hx0 hx1
      have hxN : x < N := by omega
      have hxi : ¬ ((N : Int) ≤ (x : Int)) := by omega
      have hxd : decide ((x : Int) < 0) = false := decide_eq_false (by omega)
      have hxe : decide (N ≤ x) = false := decide_eq_false (by omega)
      have hki : (k : Int) < (m : Int) := by omega
      have hkc : (k : Int) ≤ (cl : Int) := by omega
      have hwk : IntKind.i64.wrap ((k : Int) + 1) = (k : Int) + 1 := IntWalk.i64_in _ (by omega)
      have d0 := HK.out.cell 0
      have d1 := HK.out.cell 1
      have HHAS := Lib.hid hhas
      by_cases hk1 : 0 < k
      · obtain ⟨j, hj⟩ : ∃ j, j + 1 = k := ⟨k - 1, by omega⟩
        have hjp : j < p.length := by omega
        obtain ⟨hy0, hy1⟩ := HLOW.out _ (List.getElem_mem hjp)
        obtain ⟨y, hy⟩ : ∃ y : Nat, p[j] = y := ⟨p[j].toNat, by omega⟩
        have hadj : adj es y x = true := by
          have := HCH.out j (by omega)
          rw [getD_at p j hjp] at this
          simp only [hj] at this
          rw [getD_at p k hkp, hx, hy] at this
          exact this
        obtain ⟨b3, off3, hLe3, _, gy⟩ := (HRL.out.below hb).at1 (f := fun x : Int => .int .i64 x) hjp
        obtain ⟨rfl, rfl⟩ : b3 = b2 ∧ off3 = off2 := by injection hLe3 with h; injection h with h1 h2 h3; exact ⟨h1.symm, h2.symm⟩
        rw [hy] at gy
        have hNE := (HNE y x wr.drew hb.drew).out
        rw [hadj] at hNE
        have hwj : IntKind.i64.wrap ((k : Int) - 1) = (j : Int) := by rw [IntWalk.i64_in _ (by omega)]; omega
        have hjm : j < m := by omega
        have hkd : decide (0 < k) = true := decide_eq_true hk1
        have HNE2 := Lib.hid hNE
        clear hb hk0 hno hhas hLe hx hkp hlt hj hjp hy0 hy1 hy hadj hLe3 hNE hk1
        go_wp2_with fail
        refine region_plain 99 42 (fun w' => w'.cell? ⟨w.heap.size, 0, none⟩ = some (.int .i64 (N : Int)) ∧ w'.cell? ⟨w.heap.size, 1, none⟩ = some (.slice A n c) ∧ w'.cell? ⟨b3, off3 + k, none⟩ = some (.int .i64 (x : Int)) ∧ w'.cell? ⟨b3, off3 + j, none⟩ = some (.int .i64 (y : Int))) (by kernel_rfl) rfl ?_
        refine anyC_reads (by kernel_rfl) [0, 1, 2, 3, 4, 5, 6, 7, 8, 9, 10, 11, 12, 13, 14, 15, 16, 17, 18, 19, 20, 21] ?opm ?ohm 20 _ _ _ (by kernel_rfl) ?okm
        case ohm => (simp only [List.filterMap_cons, List.filterMap_nil, List.getElem?_toArray, List.getElem?_cons_zero, List.getElem?_cons_succ]; try rfl)
        case okm =>
          repeat (
            refine readC_step (v := ?_) rfl (fun w' hw' => ?_) ?_
            rotate_left
            focus (obtain ⟨p1, p2, p3, p4⟩ := hw'; go_simp; try with_reducible rfl)
            go_simp)
          refine readC_nil ?_
          refine anyC_one (i := 22) (by kernel_rfl) rfl rfl (.inr ⟨d0, d1, gx, gy⟩) ?_
          go_simp
          refine HHAS.out.mono ?_
          clear HHAS
          rintro e w' ⟨rfl, rfl⟩
          go_simp
          refine anyC_reads (by kernel_rfl) [23, 24, 25, 26, 27, 28, 29, 30, 31, 32, 33, 34, 35, 36, 37] ?opn ?ohn 4 _ _ _ (by kernel_rfl) ?okn
          case ohn => (simp only [List.filterMap_cons, List.filterMap_nil, List.getElem?_toArray, List.getElem?_cons_zero, List.getElem?_cons_succ]; try rfl)
          case okn =>
            repeat (
              refine readC_step (v := ?_) rfl (fun w' hw' => ?_) ?_
              rotate_left
              focus (obtain ⟨p1, p2, p3, p4⟩ := hw'; go_simp; try with_reducible rfl)
              go_simp)
            refine readC_nil ?_
            refine anyC_one (i := 38) (by kernel_rfl) rfl rfl (.inr ⟨d0, d1, gx, gy⟩) ?_
            go_simp
            refine HNE2.out.mono ?_
            clear HNE2
            rintro e w3 ⟨rfl, hb3⟩
            have hb3' : Below wr.heap.size wr w3 := ((Below.refl _ wr).drew).trans hb3
            have HB3 := Lib.hid (HB.out.trans (hb3'.mono hsz))
            have HK3 := Lib.hid (HK.out.below hb3' HK.out.lt)
            have d03 := HK3.out.cell 0
            have d13 := HK3.out.cell 1
            have gx3 := (hb3'.cell (by show b3 < _; omega)).trans gx
            have gy3 := (hb3'.cell (by show b3 < _; omega)).trans gy
            clear hb3 hb3'
            go_simp
            refine anyC_one (i := 39) (by kernel_rfl) rfl rfl (.inr ⟨d03, d13, gx3, gy3⟩) ?_
            go_simp
            refine anyC_one (i := 40) (by kernel_rfl) rfl rfl (.inr ⟨d03, d13, gx3, gy3⟩) ?_
            go_simp
            refine anyC_one (i := 41) (by kernel_rfl) rfl rfl (.inr ⟨d03, d13, gx3, gy3⟩) ?_
            go_simp
            refine anyC_end (by kernel_rfl) (.inr ⟨d03, d13, gx3, gy3⟩) ?_
            go_wp2_with fail
            go_roundw
            case rel => exact ⟨k + 1, by omega, by go_num, HB3.out, HK3.out⟩
            case measure => simp [intOf]; omega
      · have hkd : decide (0 < k) = false := decide_eq_false hk1
        have HB3 := Lib.hid hb.drew
        have HK3 : Hid (Blk wr.drew w.heap.size 24 #[.int .i64 N, .slice A n c]) := Lib.hid hk0
        clear hb hk0 hno hhas hLe hx hkp hlt hk1
        go_wp2_with fail
        refine region_plain 99 42 (fun w' => w' = wr.drew) (by kernel_rfl) rfl ?_
        refine anyC_reads (by kernel_rfl) [0, 1, 2, 3, 4, 5, 6, 7, 8, 9, 10, 11, 12, 13, 14, 15, 16, 17, 18, 19, 20, 21] ?opl ?ohl 20 _ _ _ (by kernel_rfl) ?okk
        case ohl => (simp only [List.filterMap_cons, List.filterMap_nil, List.getElem?_toArray, List.getElem?_cons_zero, List.getElem?_cons_succ]; try rfl)
        case okk =>
          repeat (
            refine readC_step (v := ?_) rfl (fun w' hw' => ?_) ?_
            rotate_left
            focus (subst hw'; go_simp; try with_reducible rfl)
            go_simp)
          refine readC_nil ?_
          refine anyC_one (i := 22) (by kernel_rfl) rfl rfl (.inr rfl) ?_
          go_simp
          refine HHAS.out.mono ?_
          clear HHAS
          rintro e w' ⟨rfl, rfl⟩
          go_simp
          refine anyC_reads (by kernel_rfl) [23, 24, 25, 26, 27, 28, 29, 30, 31, 32, 33, 34, 35, 36, 37, 38, 39, 40, 41] ?opk ?ohk 0 _ _ _ (by kernel_rfl) ?okl
          case ohk => (simp only [List.filterMap_cons, List.filterMap_nil, List.getElem?_toArray, List.getElem?_cons_zero, List.getElem?_cons_succ]; try rfl)
          case okl =>
            repeat (first
              | (refine readC_step (v := ?_) rfl (fun w' hw' => ?_) ?_
                 rotate_left
                 focus (subst hw'; go_simp; done)
                 go_simp)
              | (refine readC_step (v := ?_) rfl (fun w' hw' => ?_) ?_
                 rotate_left
                 focus (subst hw'; go_simp; with_reducible rfl)
                 go_simp)
              | (refine readC_skip rfl ?_; go_simp))
            refine readC_nil ?_
            refine anyC_end (by kernel_rfl) (.inr rfl) ?_
            go_wp2_with fail
            go_roundw
            case rel => exact ⟨k + 1, by omega, by go_num, HB3.out, HK3.out⟩
            case measure => simp [intOf]; omega
    · obtain rfl : k = m := by omega
      clear hb hk0
      go_wp2_with fail
      go_ret
      exact ⟨rfl, HB.out⟩
end Go.Proofs.Ytjkfogkpacmdlaa
