/- All pairings that hold: the reference. Conditions: the wishes are good. -/
import Derived.Test.YtodbhgbgeiailaaAllsA
namespace Go.Proofs.Ytodbhgbgeiailaa
open Go.RowKit

structure WishIn (w : World) (B : Nat) (AL AR : Option Addr) (L R : List (Sls Int)) : Prop where
  l : Els w B 1 rcell AL L
  gl : ∀ s ∈ L, s.Good w B 1 icell OkI
  r : Els w B 1 rcell AR R
  gr : ∀ s ∈ R, s.Good w B 1 icell OkI
theorem WishIn.below {w w' : World} {B : Nat} {AL AR : Option Addr} {L R : List (Sls Int)} (h : WishIn w B AL AR L R) (hb : Below B w w') : WishIn w' B AL AR L R :=
  ⟨h.l.below hb, fun s hs => ⟨(h.gl s hs).1, (h.gl s hs).2.1, (h.gl s hs).2.2.1.below hb, (h.gl s hs).2.2.2⟩, h.r.below hb, fun s hs => ⟨(h.gr s hs).1, (h.gr s hs).2.1, (h.gr s hs).2.2.1.below hb, (h.gr s hs).2.2.2⟩⟩
theorem WishIn.more {w : World} {B B' : Nat} {AL AR : Option Addr} {L R : List (Sls Int)} (h : WishIn w B AL AR L R) (hB : B ≤ B') : WishIn w B' AL AR L R :=
  ⟨h.l.more hB, fun s hs => ⟨(h.gl s hs).1, (h.gl s hs).2.1, (h.gl s hs).2.2.1.more hB, (h.gl s hs).2.2.2⟩, h.r.more hB, fun s hs => ⟨(h.gr s hs).1, (h.gr s hs).2.1, (h.gr s hs).2.2.1.more hB, (h.gr s hs).2.2.2⟩⟩
abbrev refG (L R : List (Sls Int)) (n f : Nat) (l : List Int) (q : Nat) : List (List Int) := if refJ L R l ((q : Int) - 1) then [] else refA L R n f (l ++ [(q : Int) - 1])
theorem refG_len (L R : List (Sls Int)) (n f : Nat) (l : List Int) (hn : n ≤ 8) (hf : f ≤ 8) : ∀ q, q ≤ 9 → ((List.range q).flatMap (refG L R n f l)).length ≤ q * 43046721 := by
  intro q
  induction q with
  | zero => simp
  | succ q ih =>
    intro hq
    rw [flat_succ, List.length_append]
    have h1 := ih (by omega)
    have h2 : (refG L R n f l q).length ≤ 43046721 := by
      unfold refG
      split
      · simp
      · exact Nat.le_trans (refA_len L R n f _) (pow_le9 hn hf)
    omega
/-- How far the way through those that may come next is. -/
def AllsI (S n f : Nat) (AL AR : Option Addr) (cL cR : Nat) (L R : List (Sls Int)) (l : List Int) (w : World) (s6 s5 : Value) (wr : World) : Prop :=
  ∃ (q : Nat) (A5 : Option Addr) (cap5 : Nat) (sls : List (Sls Int)), q ≤ n + 1 ∧ s6 = .int .i64 ((q : Int) - 1) ∧ s5 = .slice A5 sls.length cap5 ∧ Below S w wr ∧ Blk wr S 38 #[.slice AL n cL, .slice AR n cR] ∧ Own wr (S + 1) 39 1 rcell A5 cap5 sls ∧ (∀ s ∈ sls, RowI wr s) ∧ sls.map (fun s => s.l) = (List.range q).flatMap (refG L R n f l)

set_option maxRecDepth 100000 in
set_option maxHeartbeats 4000000 in
theorem ref_pairings (n cL cR B : Nat) (AL AR : Option Addr) (L R : List (Sls Int)) (hL : GoodL n L) (hR : GoodL n R) : ∀ (f : Nat) (l : List Int) (A : Option Addr) (m c : Nat) (w : World), l.length = m → m + f = n → (∀ x ∈ l, -1 ≤ x ∧ x < n) → WishIn w B AL AR L R → B ≤ w.heap.size → RowI w ⟨A, c, l⟩ →
    Calls Try.prog 74 #[.agg #[.slice AL n cL, .slice AR n cR], .slice A m c] w fun e w' => ∃ A' cap sls, e = .returned (.slice A' sls.length cap) ∧ Below w.heap.size w w' ∧ Els w' w'.heap.size 1 rcell A' sls ∧ (∀ s ∈ sls, RowI w' s) ∧ sls.map (fun s => s.l) = refA L R n f l := by
  have hn8 := hL.n8
  intro f
  induction f with
  | zero =>
    intro l A m c w hlm hmf hlx hwi hBw hrow
    obtain rfl : m = n := by omega
    have hok : PairOk m l := ⟨hlm, fun i hi => by
      have := hlx (l.getD i 0) (by rw [getD_at l i (by omega)]; exact List.getElem_mem _)
      exact this⟩
    have hbx := (Below.refl w.heap.size w).alloc (Nat.le_refl _) (.cells #[.slice AL m cL, .slice AR m cR] 38)
    have hk := Blk.new w 38 #[.slice AL m cL, .slice AR m cR]
    have hwi1 := (hwi.below (hbx.mono hBw)).more (show B ≤ (w.alloc (.cells #[.slice AL m cL, .slice AR m cR] 38)).heap.size by rw [size_alloc']; omega)
    have HC := Lib.hid (ref_Holds AL AR A m cL cR c L R l _ hL hR hok hwi1.l hwi1.gl hwi1.r hwi1.gr (hrow.alloc _).els)
    have HB0 := Lib.hid hbx
    have HROW := Lib.hid (hrow.alloc (.cells #[.slice AL m cL, .slice AR m cR] 38))
    have c0 := hk.cell 0
    have c1 := hk.cell 1
    have HLM := Lib.hid hlm
    clear hok hbx hk hwi1 hwi hrow hlx hlm
    go_enter Try.func74, Try.ntmps74
    go_wp2_with fail
    refine HC.out.mono ?_
    clear HC
    rintro e v1 ⟨rfl, hb1⟩
    have hb1' := HB0.out.trans (hb1.mono (by rw [size_alloc']; omega))
    have HB1 := Lib.hid hb1'
    have hz1 := hb1'.size
    have HROW1 := Lib.hid (HROW.out.below hb1 (Nat.le_refl _))
    clear hb1 hb1' c0 c1 HB0 HROW
    cases hh : holdR L R l with
    | true =>
      have HRA : Hid (refA L R m 0 l = [l]) := Lib.hid (by unfold refA; rw [hh]; rfl)
      clear hh
      go_wp2_with fail
      go_ret
      refine ⟨some ⟨v1.heap.size, 0, none⟩, 1, [⟨A, c, l⟩], by first | rfl | (simp; done), HB1.out.alloc hz1 _, ?_, ?_, by rw [HRA.out]; rfl⟩
      · refine fun _ => ⟨v1.heap.size, 0, rfl, by rw [size_alloc']; omega, fun i a ha j u hu => ?_⟩
        cases i with
        | zero =>
          simp at ha
          subst ha
          cases j with
          | zero =>
            have hu1 : u = (⟨A, c, l⟩ : Sls Int).val := by simpa using hu.symm
            have hu' : u = .slice A m c := by rw [hu1]; show Value.slice A l.length c = _; rw [HLM.out]
            rw [hu']
            exact (Blk.new v1 39 #[.slice A m c]).cell 0
          | succ j => simp at hu
        | succ i => simp at ha
      · intro s hs
        rw [List.mem_singleton] at hs
        subst hs
        exact HROW1.out.alloc _
    | false =>
      have HRA : Hid (refA L R m 0 l = []) := Lib.hid (by unfold refA; rw [hh]; rfl)
      clear hh
      go_wp2_with fail
      go_ret
      exact ⟨none, 0, [], rfl, HB1.out, Els.nil, (fun s hs => nomatch hs), by rw [HRA.out]; rfl⟩
  | succ f ih =>
    intro l A m c w hlm hmf hlx hwi hBw hrow
    have hmn : m < n := by omega
    obtain ⟨S, hS⟩ : ∃ S, S = w.heap.size := ⟨_, rfl⟩
    have hb1 := (Below.refl w.heap.size w).alloc (Nat.le_refl _) (.cells #[.slice AL n cL, .slice AR n cR] 38)
    have hk1 := Blk.new w 38 #[.slice AL n cL, .slice AR n cR]
    have c0 := hk1.cell 0
    have c1 := hk1.cell 1
    obtain ⟨W1, hW1⟩ : ∃ W1, W1 = w.alloc (.cells #[.slice AL n cL, .slice AR n cR] 38) := ⟨_, rfl⟩
    rw [← hW1, ← hS] at hb1 hk1
    have hmne : ((m : Int) == (n : Int)) = false := by simp; omega
    have HB1 := Lib.hid hb1
    have HK1 := Lib.hid hk1
    have HW1 := Lib.hid hW1
    have HS := Lib.hid hS
    have HWI := Lib.hid hwi
    have HROW := Lib.hid hrow
    have HLX := Lib.hid hlx
    have HLM := Lib.hid hlm
    have HIH := Lib.hid ih
    have hBS : B ≤ S := by omega
    clear hb1 hk1 hW1 hS hwi hrow hlx hlm ih
    go_enter Try.func74, Try.ntmps74
    go_wp2_with fail
    rw [← HW1.out, ← HS.out]
    clear c0 c1
    go_loopw [6, 5] (fun s6 s5 wr => AllsI S n f AL AR cL cR L R l w s6 s5 wr) (fun s6 _ _ => (n - intOf s6).toNat)
    case atStart => exact ⟨0, none, 0, [], Nat.zero_le _, rfl, rfl, HB1.out, HK1.out, Own.nil _ _ _ (fun _ => rfl), (fun s hs => nomatch hs), rfl⟩
    case round =>
      clear HB1 HK1 HW1
      rename World => wr
      obtain ⟨q, A5, cap5, sls, hq, rfl, rfl, hb, hk, how, hrows, hmap⟩ := hrel
      by_cases hqn : q < n + 1
      · have hlt : (q : Int) - 1 < n := by omega
        have c0 := hk.cell 0
        have c1 := hk.cell 1
        by_cases hq0 : q = 0
        · subst hq0
          have HG : Hid (refG L R n f l 0 = refA L R n f (l ++ [-1])) := Lib.hid (by
            unfold refG refJ
            rw [show ((0 : Nat) : Int) - 1 = -1 by omega, decide_eq_false (by omega)]
            rfl)
          obtain ⟨q5, hq5⟩ : ∃ q5, q5 = sls.length := ⟨_, rfl⟩
          rw [← hq5]
          have hq5b : q5 ≤ 9 * 43046721 := by
            have h1 := congrArg List.length hmap
            rw [List.length_map] at h1
            rw [hq5, h1]
            exact Nat.le_trans (refG_len L R n f l hn8 (by omega) _ (by omega)) (Nat.mul_le_mul_right _ (by omega))
          obtain ⟨Z, hZ⟩ : ∃ Z, Z = wr.heap.size := ⟨_, rfl⟩
          have hSZ : S < Z := by rw [hZ]; exact hk.lt
          have hrecJ : ∀ (w7 : World) (A7 : Option Addr) (c7 : Nat), Below Z wr w7 → RowI w7 ⟨A7, c7, l ++ [-1]⟩ → Calls Try.prog 74 #[.agg #[.slice AL n cL, .slice AR n cR], .slice A7 (m + 1) c7] w7 fun e w' => ∃ A' cap sls, e = .returned (.slice A' sls.length cap) ∧ Below w7.heap.size w7 w' ∧ Els w' w'.heap.size 1 rcell A' sls ∧ (∀ s ∈ sls, RowI w' s) ∧ sls.map (fun s => s.l) = refA L R n f (l ++ [-1]) := by
            intro w7 A7 c7 hb7 hrow7
            have hbw7 : Below S w w7 := hb.trans (hb7.mono (by omega))
            exact HIH.out (l ++ [-1]) A7 (m + 1) c7 w7 (by rw [List.length_append, HLM.out]; rfl) (by omega) (fun x hx => by
              rcases List.mem_append.1 hx with h | h
              · exact HLX.out x h
              · rw [List.mem_singleton] at h
                omega) (HWI.out.below (hbw7.mono hBS)) (by have := hb7.size; omega) hrow7
          have hCof : ∀ V, Below Z wr V → V.cell? ⟨S, 0, none⟩ = some (.slice AL n cL) ∧ V.cell? ⟨S, 1, none⟩ = some (.slice AR n cR) := fun V hV => ⟨(hk.below hV hSZ).cell 0, (hk.below hV hSZ).cell 1⟩
          have HREC := Lib.hid hrecJ
          have HROWW := Lib.hid (HROW.out.below hb (by rw [← HS.out]; exact Nat.le_refl _))
          have HQ5 : Hid (sls.length = q5) := Lib.hid hq5.symm
          have HZ := Lib.hid hZ
          have HOW := Lib.hid how
          have HK := Lib.hid hk
          have HB := Lib.hid hb
          have HROWS := Lib.hid hrows
          have HMAP := Lib.hid hmap
          clear hrecJ hq5 hZ how hk hb hrows hmap
          go_wp2_with fail
          refine region_plain 99 11 (fun V => V.cell? ⟨S, 0, none⟩ = some (.slice AL n cL) ∧ V.cell? ⟨S, 1, none⟩ = some (.slice AR n cR)) (by kernel_rfl) rfl ?_
          refine anyC_reads (by kernel_rfl) [0, 1, 3, 5] ?op1 ?oh1 7 _ _ _ (by kernel_rfl) ?ok1
          case oh1 => (simp only [List.filterMap_cons, List.filterMap_nil, List.getElem?_toArray, List.getElem?_cons_zero, List.getElem?_cons_succ]; try rfl)
          repeat (
            refine readC_step (v := ?_) rfl (fun w' hw' => ?_) ?_
            rotate_left
            focus (obtain ⟨q0, q1⟩ := hw'; go_simp; try with_reducible rfl)
            go_simp)
          refine readC_nil ?_
          refine anyD_two (i := 2) (j := 6) (by kernel_rfl) rfl rfl rfl rfl (.inr ⟨c0, c1⟩) ?_ ?_
          · go_simp
            rw [← HZ.out]
            refine anyD_two (i := 4) (j := 6) (by kernel_rfl) rfl rfl rfl rfl (.inr (hCof _ (by rw [HZ.out]; exact ((Below.refl _ wr).alloc (Nat.le_refl _) _).drew))) ?_ ?_
            · obtain ⟨A4, c4, w4, A7, c7, w7, happ4, hb4, happ7, hrow7, hb7⟩ := ord_a wr Z m c A l (-1) HZ.out HROWW.out HLM.out (by omega)
              have hC4 := hCof w4 hb4
              have hC47 := hCof (w4.alloc (.cells #[.int .i64 (-1)] 3)) (hb4.alloc (by rw [HZ.out]; exact hb4.size) _)
              refine wp_append_run _ _ _ rfl _ _ rfl rfl _ _ happ4 ?_
              clear happ4 hb4
              go_simp
              refine anyC_one (i := 6) (by kernel_rfl) rfl rfl (.inr hC4) ?_
              go_simp
              refine anyC_one (i := 7) (by kernel_rfl) rfl rfl (.inr hC47) ?_
              refine wp_append_run _ _ _ rfl _ _ rfl rfl _ _ happ7 ?_
              clear happ7 hC4 hC47
              go_simp
              refine anyC_one (i := 8) (by kernel_rfl) rfl rfl (.inr (hCof _ hb7)) ?_
              go_simp
              refine (HREC.out w7 A7 c7 hb7 hrow7).mono ?_
              rintro e w8 ⟨A8, cap8, sls8, rfl, hb8, hels8, hrows8, hmap8⟩
              have hz7 : Z ≤ w7.heap.size := by rw [HZ.out]; exact hb7.size
              have hb78 : Below Z wr w8 := hb7.trans (hb8.mono hz7)
              have how8 := HOW.out.below hb78 (by rw [HZ.out]; exact Nat.le_refl _)
              have hz8 : Z ≤ w8.heap.size := by rw [HZ.out]; exact hb78.size
              have hl8 : sls8.length ≤ 43046721 := by
                have := congrArg List.length hmap8
                rw [List.length_map] at this
                rw [this]
                exact Nat.le_trans (refA_len L R n f _) (pow_le9 hn8 (by omega))
              obtain ⟨A9, cap9, w9, happ9, how9, hgr9, _⟩ := run_append_els (P := Try.prog) 36 36 (S + 1) 1 39 (.slice none 0 0) 24 Try.underlying36 (by kernel_rfl) rfl (by omega) rcell w8 A5 q5 cap5 sls HQ5.out how8 A8 sls8.length cap8 sls8 rfl w8.heap.size hels8
                (fun u hu => by
                  obtain ⟨a, _, ha⟩ := List.mem_flatMap.1 hu
                  have hu2 : u = a.val := by simpa using ha
                  rw [hu2]
                  rfl) (by unfold maxLen; omega) (by omega) (by omega)
              have hrows9 : ∀ s ∈ sls ++ sls8, RowI w9 s := fun s hs => by
                have h8 : RowI w8 s := by
                  rcases List.mem_append.1 hs with h | h
                  · exact (HROWS.out s h).below hb78 (by rw [HZ.out]; exact Nat.le_refl _)
                  · exact hrows8 s h
                exact h8.grown hgr9 how8 (by decide)
              have hmap9 : (sls ++ sls8).map (fun s => s.l) = (List.range (0 + 1)).flatMap (refG L R n f l) := by rw [List.map_append, HMAP.out, hmap8, flat_succ _ 0, HG.out]
              have hne9 : ∀ g, blkOf A5 = some g → S + 1 ≤ g := fun g hg => (HOW.out.lt g hg).1
              have hk9 := (HK.out.below hb78 hSZ).grown hgr9 (fun e => by have := hne9 S e.symm; omega)
              have hb9 : Below S w w9 := (HB.out.trans (hb78.mono (by omega))).grown hgr9 (by omega) (fun g e => by have := hne9 g e; omega)
              have hC8 := hCof w8 hb78
              have hC9 : w9.cell? ⟨S, 0, none⟩ = some (.slice AL n cL) ∧ w9.cell? ⟨S, 1, none⟩ = some (.slice AR n cR) := ⟨hk9.cell 0, hk9.cell 1⟩
              have HF9 := Lib.hid (And.intro hb9 (And.intro hk9 (And.intro how9 (And.intro hrows9 hmap9))))
              have hlen9 : (sls ++ sls8).length = q5 + sls8.length := by rw [List.length_append, HQ5.out]
              have HL9 := Lib.hid hlen9
              clear hb8 hels8 hrows8 hmap8 hb78 how8 how9 hgr9 hrows9 hmap9 hne9 hk9 hb9 hlen9 hl8 hrow7
              go_simp
              refine anyC_one (i := 9) (by kernel_rfl) rfl rfl (.inr hC8) ?_
              refine wp_append_run _ _ _ rfl _ _ rfl rfl _ _ happ9 ?_
              go_simp
              refine anyC_one (i := 10) (by kernel_rfl) rfl rfl (.inr hC9) ?_
              go_simp
              refine anyC_end (by kernel_rfl) (.inr hC9) ?_
              clear happ9 hC8 hC9 hCof
              go_wp2_with fail
              go_roundw
              case rel => exact ⟨0 + 1, A9, cap9, sls ++ sls8, by omega, by first | rfl | (simp; done) | (simp; omega), by rw [HL9.out], HF9.out.1, HF9.out.2.1, HF9.out.2.2.1, HF9.out.2.2.2.1, HF9.out.2.2.2.2⟩
              case measure => first | (simp [intOf]; done) | (simp [intOf]; omega)
            · obtain ⟨A4, c4, w4, A7, c7, w7, happ4, hb4, happ7, hrow7, hb7⟩ := ord_b wr Z m c A l (-1) HZ.out HROWW.out HLM.out (by omega)
              have hC4 := hCof w4 hb4
              go_simp
              rw [← HZ.out]
              refine anyC_one (i := 4) (by kernel_rfl) rfl rfl (.inr (hCof _ (by rw [HZ.out]; exact (((Below.refl _ wr).alloc (Nat.le_refl _) _).alloc (by rw [size_alloc']; omega) _).drew))) ?_
              refine wp_append_run _ _ _ rfl _ _ rfl rfl _ _ happ4 ?_
              clear happ4 hb4
              go_simp
              refine anyC_one (i := 7) (by kernel_rfl) rfl rfl (.inr hC4) ?_
              refine wp_append_run _ _ _ rfl _ _ rfl rfl _ _ happ7 ?_
              clear happ7 hC4
              go_simp
              refine anyC_one (i := 8) (by kernel_rfl) rfl rfl (.inr (hCof _ hb7)) ?_
              go_simp
              refine (HREC.out w7 A7 c7 hb7 hrow7).mono ?_
              rintro e w8 ⟨A8, cap8, sls8, rfl, hb8, hels8, hrows8, hmap8⟩
              have hz7 : Z ≤ w7.heap.size := by rw [HZ.out]; exact hb7.size
              have hb78 : Below Z wr w8 := hb7.trans (hb8.mono hz7)
              have how8 := HOW.out.below hb78 (by rw [HZ.out]; exact Nat.le_refl _)
              have hz8 : Z ≤ w8.heap.size := by rw [HZ.out]; exact hb78.size
              have hl8 : sls8.length ≤ 43046721 := by
                have := congrArg List.length hmap8
                rw [List.length_map] at this
                rw [this]
                exact Nat.le_trans (refA_len L R n f _) (pow_le9 hn8 (by omega))
              obtain ⟨A9, cap9, w9, happ9, how9, hgr9, _⟩ := run_append_els (P := Try.prog) 36 36 (S + 1) 1 39 (.slice none 0 0) 24 Try.underlying36 (by kernel_rfl) rfl (by omega) rcell w8 A5 q5 cap5 sls HQ5.out how8 A8 sls8.length cap8 sls8 rfl w8.heap.size hels8
                (fun u hu => by
                  obtain ⟨a, _, ha⟩ := List.mem_flatMap.1 hu
                  have hu2 : u = a.val := by simpa using ha
                  rw [hu2]
                  rfl) (by unfold maxLen; omega) (by omega) (by omega)
              have hrows9 : ∀ s ∈ sls ++ sls8, RowI w9 s := fun s hs => by
                have h8 : RowI w8 s := by
                  rcases List.mem_append.1 hs with h | h
                  · exact (HROWS.out s h).below hb78 (by rw [HZ.out]; exact Nat.le_refl _)
                  · exact hrows8 s h
                exact h8.grown hgr9 how8 (by decide)
              have hmap9 : (sls ++ sls8).map (fun s => s.l) = (List.range (0 + 1)).flatMap (refG L R n f l) := by rw [List.map_append, HMAP.out, hmap8, flat_succ _ 0, HG.out]
              have hne9 : ∀ g, blkOf A5 = some g → S + 1 ≤ g := fun g hg => (HOW.out.lt g hg).1
              have hk9 := (HK.out.below hb78 hSZ).grown hgr9 (fun e => by have := hne9 S e.symm; omega)
              have hb9 : Below S w w9 := (HB.out.trans (hb78.mono (by omega))).grown hgr9 (by omega) (fun g e => by have := hne9 g e; omega)
              have hC8 := hCof w8 hb78
              have hC9 : w9.cell? ⟨S, 0, none⟩ = some (.slice AL n cL) ∧ w9.cell? ⟨S, 1, none⟩ = some (.slice AR n cR) := ⟨hk9.cell 0, hk9.cell 1⟩
              have HF9 := Lib.hid (And.intro hb9 (And.intro hk9 (And.intro how9 (And.intro hrows9 hmap9))))
              have hlen9 : (sls ++ sls8).length = q5 + sls8.length := by rw [List.length_append, HQ5.out]
              have HL9 := Lib.hid hlen9
              clear hb8 hels8 hrows8 hmap8 hb78 how8 how9 hgr9 hrows9 hmap9 hne9 hk9 hb9 hlen9 hl8 hrow7
              go_simp
              refine anyC_one (i := 9) (by kernel_rfl) rfl rfl (.inr hC8) ?_
              refine wp_append_run _ _ _ rfl _ _ rfl rfl _ _ happ9 ?_
              go_simp
              refine anyC_one (i := 10) (by kernel_rfl) rfl rfl (.inr hC9) ?_
              go_simp
              refine anyC_end (by kernel_rfl) (.inr hC9) ?_
              clear happ9 hC8 hC9 hCof
              go_wp2_with fail
              go_roundw
              case rel => exact ⟨0 + 1, A9, cap9, sls ++ sls8, by omega, by first | rfl | (simp; done) | (simp; omega), by rw [HL9.out], HF9.out.1, HF9.out.2.1, HF9.out.2.2.1, HF9.out.2.2.2.1, HF9.out.2.2.2.2⟩
              case measure => first | (simp [intOf]; done) | (simp [intOf]; omega)
          · go_simp
            rw [← HZ.out]
            obtain ⟨A4, c4, w4, A7, c7, w7, happ4, hb4, happ7, hrow7, hb7⟩ := ord_c wr Z m c A l (-1) HZ.out HROWW.out HLM.out (by omega)
            have hC4 := hCof w4 hb4
            refine anyC_one (i := 2) (by kernel_rfl) rfl rfl (.inr (hCof _ (by rw [HZ.out]; exact ((Below.refl _ wr).alloc (Nat.le_refl _) _).drew))) ?_
            go_simp
            rw [← HZ.out]
            refine anyC_one (i := 4) (by kernel_rfl) rfl rfl (.inr (hCof _ (by rw [HZ.out]; exact (((Below.refl _ wr).alloc (Nat.le_refl _) _).alloc (by rw [size_alloc']; omega) _).drew))) ?_
            refine wp_append_run _ _ _ rfl _ _ rfl rfl _ _ happ4 ?_
            clear happ4 hb4
            go_simp
            refine anyC_one (i := 7) (by kernel_rfl) rfl rfl (.inr hC4) ?_
            refine wp_append_run _ _ _ rfl _ _ rfl rfl _ _ happ7 ?_
            clear happ7 hC4
            go_simp
            refine anyC_one (i := 8) (by kernel_rfl) rfl rfl (.inr (hCof _ hb7)) ?_
            go_simp
            refine (HREC.out w7 A7 c7 hb7 hrow7).mono ?_
            rintro e w8 ⟨A8, cap8, sls8, rfl, hb8, hels8, hrows8, hmap8⟩
            have hz7 : Z ≤ w7.heap.size := by rw [HZ.out]; exact hb7.size
            have hb78 : Below Z wr w8 := hb7.trans (hb8.mono hz7)
            have how8 := HOW.out.below hb78 (by rw [HZ.out]; exact Nat.le_refl _)
            have hz8 : Z ≤ w8.heap.size := by rw [HZ.out]; exact hb78.size
            have hl8 : sls8.length ≤ 43046721 := by
              have := congrArg List.length hmap8
              rw [List.length_map] at this
              rw [this]
              exact Nat.le_trans (refA_len L R n f _) (pow_le9 hn8 (by omega))
            obtain ⟨A9, cap9, w9, happ9, how9, hgr9, _⟩ := run_append_els (P := Try.prog) 36 36 (S + 1) 1 39 (.slice none 0 0) 24 Try.underlying36 (by kernel_rfl) rfl (by omega) rcell w8 A5 q5 cap5 sls HQ5.out how8 A8 sls8.length cap8 sls8 rfl w8.heap.size hels8
              (fun u hu => by
                obtain ⟨a, _, ha⟩ := List.mem_flatMap.1 hu
                have hu2 : u = a.val := by simpa using ha
                rw [hu2]
                rfl) (by unfold maxLen; omega) (by omega) (by omega)
            have hrows9 : ∀ s ∈ sls ++ sls8, RowI w9 s := fun s hs => by
              have h8 : RowI w8 s := by
                rcases List.mem_append.1 hs with h | h
                · exact (HROWS.out s h).below hb78 (by rw [HZ.out]; exact Nat.le_refl _)
                · exact hrows8 s h
              exact h8.grown hgr9 how8 (by decide)
            have hmap9 : (sls ++ sls8).map (fun s => s.l) = (List.range (0 + 1)).flatMap (refG L R n f l) := by rw [List.map_append, HMAP.out, hmap8, flat_succ _ 0, HG.out]
            have hne9 : ∀ g, blkOf A5 = some g → S + 1 ≤ g := fun g hg => (HOW.out.lt g hg).1
            have hk9 := (HK.out.below hb78 hSZ).grown hgr9 (fun e => by have := hne9 S e.symm; omega)
            have hb9 : Below S w w9 := (HB.out.trans (hb78.mono (by omega))).grown hgr9 (by omega) (fun g e => by have := hne9 g e; omega)
            have hC8 := hCof w8 hb78
            have hC9 : w9.cell? ⟨S, 0, none⟩ = some (.slice AL n cL) ∧ w9.cell? ⟨S, 1, none⟩ = some (.slice AR n cR) := ⟨hk9.cell 0, hk9.cell 1⟩
            have HF9 := Lib.hid (And.intro hb9 (And.intro hk9 (And.intro how9 (And.intro hrows9 hmap9))))
            have hlen9 : (sls ++ sls8).length = q5 + sls8.length := by rw [List.length_append, HQ5.out]
            have HL9 := Lib.hid hlen9
            clear hb8 hels8 hrows8 hmap8 hb78 how8 how9 hgr9 hrows9 hmap9 hne9 hk9 hb9 hlen9 hl8 hrow7
            go_simp
            refine anyC_one (i := 9) (by kernel_rfl) rfl rfl (.inr hC8) ?_
            refine wp_append_run _ _ _ rfl _ _ rfl rfl _ _ happ9 ?_
            go_simp
            refine anyC_one (i := 10) (by kernel_rfl) rfl rfl (.inr hC9) ?_
            go_simp
            refine anyC_end (by kernel_rfl) (.inr hC9) ?_
            clear happ9 hC8 hC9 hCof
            go_wp2_with fail
            go_roundw
            case rel => exact ⟨0 + 1, A9, cap9, sls ++ sls8, by omega, by first | rfl | (simp; done) | (simp; omega), by rw [HL9.out], HF9.out.1, HF9.out.2.1, HF9.out.2.2.1, HF9.out.2.2.2.1, HF9.out.2.2.2.2⟩
            case measure => first | (simp [intOf]; done) | (simp [intOf]; omega)
        · obtain ⟨i, rfl⟩ : ∃ i, q = i + 1 := ⟨q - 1, by omega⟩
          have hqi : ((i + 1 : Nat) : Int) - 1 = (i : Int) := by omega
          rw [hqi] at hlt ⊢
          have hiN : i < n := by omega
          have hwiW := HWI.out.below (hb.mono hBS)
          obtain ⟨bl, ol, As, cs, hAL, gl, hls, hlen⟩ := side_at hwiW.l hwiW.gl (i := m) (by rw [hL.len]; exact hmn)
          obtain ⟨br, or_, Bs, ds, hAR, gr, hrs, hrlen⟩ := side_at hwiW.r hwiW.gr (i := i) (by rw [hR.len]; exact hiN)
          subst hAL hAR
          have HAS1 := Lib.hid (Has_any A m c l (i : Int) wr.heap.size wr HLM.out (by unfold maxLen; omega) (HROW.out.below hb (by rw [← HS.out]; exact Nat.le_refl _)).els)
          have HAS2 := Lib.hid (Has_any As (ls L m).length cs (ls L m) (i : Int) B wr rfl hlen hls)
          have HAS3 := Lib.hid (Has_any Bs (ls R i).length ds (ls R i) (m : Int) B wr rfl hrlen hrs)
          have hl8 := hL.l8 m
          have hr8 := hR.l8 i
          obtain ⟨q5, hq5⟩ : ∃ q5, q5 = sls.length := ⟨_, rfl⟩
          rw [← hq5]
          have hq5b : q5 ≤ 9 * 43046721 := by
            have h1 := congrArg List.length hmap
            rw [List.length_map] at h1
            rw [hq5, h1]
            exact Nat.le_trans (refG_len L R n f l hn8 (by omega) _ (by omega)) (Nat.mul_le_mul_right _ (by omega))
          obtain ⟨Z, hZ⟩ : ∃ Z, Z = wr.heap.size := ⟨_, rfl⟩
          have hSZ : S < Z := by rw [hZ]; exact hk.lt
          have hrecJ : ∀ (w7 : World) (A7 : Option Addr) (c7 : Nat), Below Z wr w7 → RowI w7 ⟨A7, c7, l ++ [(i : Int)]⟩ → Calls Try.prog 74 #[.agg #[.slice (some ⟨bl, ol, none⟩) n cL, .slice (some ⟨br, or_, none⟩) n cR], .slice A7 (m + 1) c7] w7 fun e w' => ∃ A' cap sls, e = .returned (.slice A' sls.length cap) ∧ Below w7.heap.size w7 w' ∧ Els w' w'.heap.size 1 rcell A' sls ∧ (∀ s ∈ sls, RowI w' s) ∧ sls.map (fun s => s.l) = refA L R n f (l ++ [(i : Int)]) := by
            intro w7 A7 c7 hb7 hrow7
            have hbw7 : Below S w w7 := hb.trans (hb7.mono (by omega))
            exact HIH.out (l ++ [(i : Int)]) A7 (m + 1) c7 w7 (by rw [List.length_append, HLM.out]; rfl) (by omega) (fun x hx => by
              rcases List.mem_append.1 hx with h | h
              · exact HLX.out x h
              · rw [List.mem_singleton] at h
                omega) (HWI.out.below (hbw7.mono hBS)) (by have := hb7.size; omega) hrow7
          have hCof : ∀ V, Below Z wr V → V.cell? ⟨S, 0, none⟩ = some (.slice (some ⟨bl, ol, none⟩) n cL) ∧ V.cell? ⟨S, 1, none⟩ = some (.slice (some ⟨br, or_, none⟩) n cR) := fun V hV => ⟨(hk.below hV hSZ).cell 0, (hk.below hV hSZ).cell 1⟩
          have HREC := Lib.hid hrecJ
          have HROWW := Lib.hid (HROW.out.below hb (by rw [← HS.out]; exact Nat.le_refl _))
          have HQ5 : Hid (sls.length = q5) := Lib.hid hq5.symm
          have HZ := Lib.hid hZ
          have HOW := Lib.hid how
          have HK := Lib.hid hk
          have HB := Lib.hid hb
          have HROWS := Lib.hid hrows
          have HMAP := Lib.hid hmap
          clear hrecJ hq5 hZ how hk hb hrows hmap
          clear hwiW hls hrs hlen hrlen
          have hqi2 := hqi
          clear hqi
          go_wp2_with fail
          refine HAS1.out.mono ?_
          clear HAS1
          rintro e W ⟨rfl, rfl⟩
          have hqi := hqi2
          cases h1 : hasB l (i : Int) with
          | true =>
            have HSK : Hid (refG L R n f l (i + 1) = []) := Lib.hid (by
              unfold refG refJ
              rw [hqi, HLM.out, show hasB l (i : Int) = true from h1]
              simp)
            clear h1 hqi hqi2
            go_wp2_with fail
            go_roundw
            case rel => exact ⟨i + 1 + 1, A5, cap5, sls, by omega, by first | rfl | (simp; done) | (simp; omega), by rw [HQ5.out], HB.out, HK.out, HOW.out, HROWS.out, by rw [HMAP.out, flat_succ _ (i + 1), HSK.out, List.append_nil]⟩
            case measure => first | (simp [intOf]; done) | (simp [intOf]; omega)
          | false =>
            have H1 := Lib.hid h1
            clear h1 hqi
            go_wp2_with fail
            refine HAS2.out.mono ?_
            clear HAS2
            rintro e W ⟨rfl, rfl⟩
            have hqi := hqi2
            cases h2 : hasB (ls L m) (i : Int) with
            | false =>
              have HSK : Hid (refG L R n f l (i + 1) = []) := Lib.hid (by
                unfold refG refJ
                rw [hqi, HLM.out, show hasB (ls L m) (i : Int) = false from h2]
                simp)
              clear h2 hqi hqi2
              go_wp2_with fail
              go_roundw
              case rel => exact ⟨i + 1 + 1, A5, cap5, sls, by omega, by first | rfl | (simp; done) | (simp; omega), by rw [HQ5.out], HB.out, HK.out, HOW.out, HROWS.out, by rw [HMAP.out, flat_succ _ (i + 1), HSK.out, List.append_nil]⟩
              case measure => first | (simp [intOf]; done) | (simp [intOf]; omega)
            | true =>
              have H2 := Lib.hid h2
              clear h2 hqi
              go_wp2_with fail
              refine HAS3.out.mono ?_
              clear HAS3
              rintro e W ⟨rfl, rfl⟩
              have hqi := hqi2
              cases h3 : hasB (ls R i) (m : Int) with
              | false =>
                have HSK : Hid (refG L R n f l (i + 1) = []) := Lib.hid (by
                  unfold refG refJ
                  rw [hqi, HLM.out, show ((i : Int)).toNat = i by simp, h3]
                  simp)
                clear h3 hqi hqi2
                go_wp2_with fail
                go_roundw
                case rel => exact ⟨i + 1 + 1, A5, cap5, sls, by omega, by first | rfl | (simp; done) | (simp; omega), by rw [HQ5.out], HB.out, HK.out, HOW.out, HROWS.out, by rw [HMAP.out, flat_succ _ (i + 1), HSK.out, List.append_nil]⟩
                case measure => first | (simp [intOf]; done) | (simp [intOf]; omega)
              | true =>
                have HG : Hid (refG L R n f l (i + 1) = refA L R n f (l ++ [(i : Int)])) := Lib.hid (by
                  unfold refG refJ
                  rw [hqi, HLM.out, show ((i : Int)).toNat = i by simp, h3, H1.out, H2.out]
                  simp)
                clear h3 hqi hqi2
                go_wp2_with fail
                refine region_plain 99 11 (fun V => V.cell? ⟨S, 0, none⟩ = some (.slice (some ⟨bl, ol, none⟩) n cL) ∧ V.cell? ⟨S, 1, none⟩ = some (.slice (some ⟨br, or_, none⟩) n cR)) (by kernel_rfl) rfl ?_
                refine anyC_reads (by kernel_rfl) [0, 1, 3, 5] ?op2 ?oh2 7 _ _ _ (by kernel_rfl) ?ok2
                case oh2 => (simp only [List.filterMap_cons, List.filterMap_nil, List.getElem?_toArray, List.getElem?_cons_zero, List.getElem?_cons_succ]; try rfl)
                repeat (
                  refine readC_step (v := ?_) rfl (fun w' hw' => ?_) ?_
                  rotate_left
                  focus (obtain ⟨q0, q1⟩ := hw'; go_simp; try with_reducible rfl)
                  go_simp)
                refine readC_nil ?_
                refine anyD_two (i := 2) (j := 6) (by kernel_rfl) rfl rfl rfl rfl (.inr ⟨c0, c1⟩) ?_ ?_
                · go_simp
                  rw [← HZ.out]
                  refine anyD_two (i := 4) (j := 6) (by kernel_rfl) rfl rfl rfl rfl (.inr (hCof _ (by rw [HZ.out]; exact ((Below.refl _ wr).alloc (Nat.le_refl _) _).drew))) ?_ ?_
                  · obtain ⟨A4, c4, w4, A7, c7, w7, happ4, hb4, happ7, hrow7, hb7⟩ := ord_a wr Z m c A l ((i : Int)) HZ.out HROWW.out HLM.out (by omega)
                    have hC4 := hCof w4 hb4
                    have hC47 := hCof (w4.alloc (.cells #[.int .i64 ((i : Int))] 3)) (hb4.alloc (by rw [HZ.out]; exact hb4.size) _)
                    refine wp_append_run _ _ _ rfl _ _ rfl rfl _ _ happ4 ?_
                    clear happ4 hb4
                    go_simp
                    refine anyC_one (i := 6) (by kernel_rfl) rfl rfl (.inr hC4) ?_
                    go_simp
                    refine anyC_one (i := 7) (by kernel_rfl) rfl rfl (.inr hC47) ?_
                    refine wp_append_run _ _ _ rfl _ _ rfl rfl _ _ happ7 ?_
                    clear happ7 hC4 hC47
                    go_simp
                    refine anyC_one (i := 8) (by kernel_rfl) rfl rfl (.inr (hCof _ hb7)) ?_
                    go_simp
                    refine (HREC.out w7 A7 c7 hb7 hrow7).mono ?_
                    rintro e w8 ⟨A8, cap8, sls8, rfl, hb8, hels8, hrows8, hmap8⟩
                    have hz7 : Z ≤ w7.heap.size := by rw [HZ.out]; exact hb7.size
                    have hb78 : Below Z wr w8 := hb7.trans (hb8.mono hz7)
                    have how8 := HOW.out.below hb78 (by rw [HZ.out]; exact Nat.le_refl _)
                    have hz8 : Z ≤ w8.heap.size := by rw [HZ.out]; exact hb78.size
                    have hl8 : sls8.length ≤ 43046721 := by
                      have := congrArg List.length hmap8
                      rw [List.length_map] at this
                      rw [this]
                      exact Nat.le_trans (refA_len L R n f _) (pow_le9 hn8 (by omega))
                    obtain ⟨A9, cap9, w9, happ9, how9, hgr9, _⟩ := run_append_els (P := Try.prog) 36 36 (S + 1) 1 39 (.slice none 0 0) 24 Try.underlying36 (by kernel_rfl) rfl (by omega) rcell w8 A5 q5 cap5 sls HQ5.out how8 A8 sls8.length cap8 sls8 rfl w8.heap.size hels8
                      (fun u hu => by
                        obtain ⟨a, _, ha⟩ := List.mem_flatMap.1 hu
                        have hu2 : u = a.val := by simpa using ha
                        rw [hu2]
                        rfl) (by unfold maxLen; omega) (by omega) (by omega)
                    have hrows9 : ∀ s ∈ sls ++ sls8, RowI w9 s := fun s hs => by
                      have h8 : RowI w8 s := by
                        rcases List.mem_append.1 hs with h | h
                        · exact (HROWS.out s h).below hb78 (by rw [HZ.out]; exact Nat.le_refl _)
                        · exact hrows8 s h
                      exact h8.grown hgr9 how8 (by decide)
                    have hmap9 : (sls ++ sls8).map (fun s => s.l) = (List.range (i + 1 + 1)).flatMap (refG L R n f l) := by rw [List.map_append, HMAP.out, hmap8, flat_succ _ (i + 1), HG.out]
                    have hne9 : ∀ g, blkOf A5 = some g → S + 1 ≤ g := fun g hg => (HOW.out.lt g hg).1
                    have hk9 := (HK.out.below hb78 hSZ).grown hgr9 (fun e => by have := hne9 S e.symm; omega)
                    have hb9 : Below S w w9 := (HB.out.trans (hb78.mono (by omega))).grown hgr9 (by omega) (fun g e => by have := hne9 g e; omega)
                    have hC8 := hCof w8 hb78
                    have hC9 : w9.cell? ⟨S, 0, none⟩ = some (.slice (some ⟨bl, ol, none⟩) n cL) ∧ w9.cell? ⟨S, 1, none⟩ = some (.slice (some ⟨br, or_, none⟩) n cR) := ⟨hk9.cell 0, hk9.cell 1⟩
                    have HF9 := Lib.hid (And.intro hb9 (And.intro hk9 (And.intro how9 (And.intro hrows9 hmap9))))
                    have hlen9 : (sls ++ sls8).length = q5 + sls8.length := by rw [List.length_append, HQ5.out]
                    have HL9 := Lib.hid hlen9
                    clear hb8 hels8 hrows8 hmap8 hb78 how8 how9 hgr9 hrows9 hmap9 hne9 hk9 hb9 hlen9 hl8 hrow7
                    go_simp
                    refine anyC_one (i := 9) (by kernel_rfl) rfl rfl (.inr hC8) ?_
                    refine wp_append_run _ _ _ rfl _ _ rfl rfl _ _ happ9 ?_
                    go_simp
                    refine anyC_one (i := 10) (by kernel_rfl) rfl rfl (.inr hC9) ?_
                    go_simp
                    refine anyC_end (by kernel_rfl) (.inr hC9) ?_
                    clear happ9 hC8 hC9 hCof
                    go_wp2_with fail
                    go_roundw
                    case rel => exact ⟨i + 1 + 1, A9, cap9, sls ++ sls8, by omega, by first | rfl | (simp; done) | (simp; omega), by rw [HL9.out], HF9.out.1, HF9.out.2.1, HF9.out.2.2.1, HF9.out.2.2.2.1, HF9.out.2.2.2.2⟩
                    case measure => first | (simp [intOf]; done) | (simp [intOf]; omega)
                  · obtain ⟨A4, c4, w4, A7, c7, w7, happ4, hb4, happ7, hrow7, hb7⟩ := ord_b wr Z m c A l ((i : Int)) HZ.out HROWW.out HLM.out (by omega)
                    have hC4 := hCof w4 hb4
                    go_simp
                    rw [← HZ.out]
                    refine anyC_one (i := 4) (by kernel_rfl) rfl rfl (.inr (hCof _ (by rw [HZ.out]; exact (((Below.refl _ wr).alloc (Nat.le_refl _) _).alloc (by rw [size_alloc']; omega) _).drew))) ?_
                    refine wp_append_run _ _ _ rfl _ _ rfl rfl _ _ happ4 ?_
                    clear happ4 hb4
                    go_simp
                    refine anyC_one (i := 7) (by kernel_rfl) rfl rfl (.inr hC4) ?_
                    refine wp_append_run _ _ _ rfl _ _ rfl rfl _ _ happ7 ?_
                    clear happ7 hC4
                    go_simp
                    refine anyC_one (i := 8) (by kernel_rfl) rfl rfl (.inr (hCof _ hb7)) ?_
                    go_simp
                    refine (HREC.out w7 A7 c7 hb7 hrow7).mono ?_
                    rintro e w8 ⟨A8, cap8, sls8, rfl, hb8, hels8, hrows8, hmap8⟩
                    have hz7 : Z ≤ w7.heap.size := by rw [HZ.out]; exact hb7.size
                    have hb78 : Below Z wr w8 := hb7.trans (hb8.mono hz7)
                    have how8 := HOW.out.below hb78 (by rw [HZ.out]; exact Nat.le_refl _)
                    have hz8 : Z ≤ w8.heap.size := by rw [HZ.out]; exact hb78.size
                    have hl8 : sls8.length ≤ 43046721 := by
                      have := congrArg List.length hmap8
                      rw [List.length_map] at this
                      rw [this]
                      exact Nat.le_trans (refA_len L R n f _) (pow_le9 hn8 (by omega))
                    obtain ⟨A9, cap9, w9, happ9, how9, hgr9, _⟩ := run_append_els (P := Try.prog) 36 36 (S + 1) 1 39 (.slice none 0 0) 24 Try.underlying36 (by kernel_rfl) rfl (by omega) rcell w8 A5 q5 cap5 sls HQ5.out how8 A8 sls8.length cap8 sls8 rfl w8.heap.size hels8
                      (fun u hu => by
                        obtain ⟨a, _, ha⟩ := List.mem_flatMap.1 hu
                        have hu2 : u = a.val := by simpa using ha
                        rw [hu2]
                        rfl) (by unfold maxLen; omega) (by omega) (by omega)
                    have hrows9 : ∀ s ∈ sls ++ sls8, RowI w9 s := fun s hs => by
                      have h8 : RowI w8 s := by
                        rcases List.mem_append.1 hs with h | h
                        · exact (HROWS.out s h).below hb78 (by rw [HZ.out]; exact Nat.le_refl _)
                        · exact hrows8 s h
                      exact h8.grown hgr9 how8 (by decide)
                    have hmap9 : (sls ++ sls8).map (fun s => s.l) = (List.range (i + 1 + 1)).flatMap (refG L R n f l) := by rw [List.map_append, HMAP.out, hmap8, flat_succ _ (i + 1), HG.out]
                    have hne9 : ∀ g, blkOf A5 = some g → S + 1 ≤ g := fun g hg => (HOW.out.lt g hg).1
                    have hk9 := (HK.out.below hb78 hSZ).grown hgr9 (fun e => by have := hne9 S e.symm; omega)
                    have hb9 : Below S w w9 := (HB.out.trans (hb78.mono (by omega))).grown hgr9 (by omega) (fun g e => by have := hne9 g e; omega)
                    have hC8 := hCof w8 hb78
                    have hC9 : w9.cell? ⟨S, 0, none⟩ = some (.slice (some ⟨bl, ol, none⟩) n cL) ∧ w9.cell? ⟨S, 1, none⟩ = some (.slice (some ⟨br, or_, none⟩) n cR) := ⟨hk9.cell 0, hk9.cell 1⟩
                    have HF9 := Lib.hid (And.intro hb9 (And.intro hk9 (And.intro how9 (And.intro hrows9 hmap9))))
                    have hlen9 : (sls ++ sls8).length = q5 + sls8.length := by rw [List.length_append, HQ5.out]
                    have HL9 := Lib.hid hlen9
                    clear hb8 hels8 hrows8 hmap8 hb78 how8 how9 hgr9 hrows9 hmap9 hne9 hk9 hb9 hlen9 hl8 hrow7
                    go_simp
                    refine anyC_one (i := 9) (by kernel_rfl) rfl rfl (.inr hC8) ?_
                    refine wp_append_run _ _ _ rfl _ _ rfl rfl _ _ happ9 ?_
                    go_simp
                    refine anyC_one (i := 10) (by kernel_rfl) rfl rfl (.inr hC9) ?_
                    go_simp
                    refine anyC_end (by kernel_rfl) (.inr hC9) ?_
                    clear happ9 hC8 hC9 hCof
                    go_wp2_with fail
                    go_roundw
                    case rel => exact ⟨i + 1 + 1, A9, cap9, sls ++ sls8, by omega, by first | rfl | (simp; done) | (simp; omega), by rw [HL9.out], HF9.out.1, HF9.out.2.1, HF9.out.2.2.1, HF9.out.2.2.2.1, HF9.out.2.2.2.2⟩
                    case measure => first | (simp [intOf]; done) | (simp [intOf]; omega)
                · go_simp
                  rw [← HZ.out]
                  obtain ⟨A4, c4, w4, A7, c7, w7, happ4, hb4, happ7, hrow7, hb7⟩ := ord_c wr Z m c A l ((i : Int)) HZ.out HROWW.out HLM.out (by omega)
                  have hC4 := hCof w4 hb4
                  refine anyC_one (i := 2) (by kernel_rfl) rfl rfl (.inr (hCof _ (by rw [HZ.out]; exact ((Below.refl _ wr).alloc (Nat.le_refl _) _).drew))) ?_
                  go_simp
                  rw [← HZ.out]
                  refine anyC_one (i := 4) (by kernel_rfl) rfl rfl (.inr (hCof _ (by rw [HZ.out]; exact (((Below.refl _ wr).alloc (Nat.le_refl _) _).alloc (by rw [size_alloc']; omega) _).drew))) ?_
                  refine wp_append_run _ _ _ rfl _ _ rfl rfl _ _ happ4 ?_
                  clear happ4 hb4
                  go_simp
                  refine anyC_one (i := 7) (by kernel_rfl) rfl rfl (.inr hC4) ?_
                  refine wp_append_run _ _ _ rfl _ _ rfl rfl _ _ happ7 ?_
                  clear happ7 hC4
                  go_simp
                  refine anyC_one (i := 8) (by kernel_rfl) rfl rfl (.inr (hCof _ hb7)) ?_
                  go_simp
                  refine (HREC.out w7 A7 c7 hb7 hrow7).mono ?_
                  rintro e w8 ⟨A8, cap8, sls8, rfl, hb8, hels8, hrows8, hmap8⟩
                  have hz7 : Z ≤ w7.heap.size := by rw [HZ.out]; exact hb7.size
                  have hb78 : Below Z wr w8 := hb7.trans (hb8.mono hz7)
                  have how8 := HOW.out.below hb78 (by rw [HZ.out]; exact Nat.le_refl _)
                  have hz8 : Z ≤ w8.heap.size := by rw [HZ.out]; exact hb78.size
                  have hl8 : sls8.length ≤ 43046721 := by
                    have := congrArg List.length hmap8
                    rw [List.length_map] at this
                    rw [this]
                    exact Nat.le_trans (refA_len L R n f _) (pow_le9 hn8 (by omega))
                  obtain ⟨A9, cap9, w9, happ9, how9, hgr9, _⟩ := run_append_els (P := Try.prog) 36 36 (S + 1) 1 39 (.slice none 0 0) 24 Try.underlying36 (by kernel_rfl) rfl (by omega) rcell w8 A5 q5 cap5 sls HQ5.out how8 A8 sls8.length cap8 sls8 rfl w8.heap.size hels8
                    (fun u hu => by
                      obtain ⟨a, _, ha⟩ := List.mem_flatMap.1 hu
                      have hu2 : u = a.val := by simpa using ha
                      rw [hu2]
                      rfl) (by unfold maxLen; omega) (by omega) (by omega)
                  have hrows9 : ∀ s ∈ sls ++ sls8, RowI w9 s := fun s hs => by
                    have h8 : RowI w8 s := by
                      rcases List.mem_append.1 hs with h | h
                      · exact (HROWS.out s h).below hb78 (by rw [HZ.out]; exact Nat.le_refl _)
                      · exact hrows8 s h
                    exact h8.grown hgr9 how8 (by decide)
                  have hmap9 : (sls ++ sls8).map (fun s => s.l) = (List.range (i + 1 + 1)).flatMap (refG L R n f l) := by rw [List.map_append, HMAP.out, hmap8, flat_succ _ (i + 1), HG.out]
                  have hne9 : ∀ g, blkOf A5 = some g → S + 1 ≤ g := fun g hg => (HOW.out.lt g hg).1
                  have hk9 := (HK.out.below hb78 hSZ).grown hgr9 (fun e => by have := hne9 S e.symm; omega)
                  have hb9 : Below S w w9 := (HB.out.trans (hb78.mono (by omega))).grown hgr9 (by omega) (fun g e => by have := hne9 g e; omega)
                  have hC8 := hCof w8 hb78
                  have hC9 : w9.cell? ⟨S, 0, none⟩ = some (.slice (some ⟨bl, ol, none⟩) n cL) ∧ w9.cell? ⟨S, 1, none⟩ = some (.slice (some ⟨br, or_, none⟩) n cR) := ⟨hk9.cell 0, hk9.cell 1⟩
                  have HF9 := Lib.hid (And.intro hb9 (And.intro hk9 (And.intro how9 (And.intro hrows9 hmap9))))
                  have hlen9 : (sls ++ sls8).length = q5 + sls8.length := by rw [List.length_append, HQ5.out]
                  have HL9 := Lib.hid hlen9
                  clear hb8 hels8 hrows8 hmap8 hb78 how8 how9 hgr9 hrows9 hmap9 hne9 hk9 hb9 hlen9 hl8 hrow7
                  go_simp
                  refine anyC_one (i := 9) (by kernel_rfl) rfl rfl (.inr hC8) ?_
                  refine wp_append_run _ _ _ rfl _ _ rfl rfl _ _ happ9 ?_
                  go_simp
                  refine anyC_one (i := 10) (by kernel_rfl) rfl rfl (.inr hC9) ?_
                  go_simp
                  refine anyC_end (by kernel_rfl) (.inr hC9) ?_
                  clear happ9 hC8 hC9 hCof
                  go_wp2_with fail
                  go_roundw
                  case rel => exact ⟨i + 1 + 1, A9, cap9, sls ++ sls8, by omega, by first | rfl | (simp; done) | (simp; omega), by rw [HL9.out], HF9.out.1, HF9.out.2.1, HF9.out.2.2.1, HF9.out.2.2.2.1, HF9.out.2.2.2.2⟩
                  case measure => first | (simp [intOf]; done) | (simp [intOf]; omega)
      · obtain rfl : q = n + 1 := by omega
        have hlt : ¬ ((n + 1 : Nat) : Int) - 1 < n := by omega
        have c0 := hk.cell 0
        go_wp2_with fail
        go_ret
        rw [← HS.out]
        exact ⟨A5, cap5, sls, rfl, hb, how.els, hrows, hmap⟩
end Go.Proofs.Ytodbhgbgeiailaa
