/- Who gets what: the program's table over sets. Conditions: the rows of fees read as lists. -/
import Derived.Test.YtfaifadfilndmaaAsgR
import Derived.Test.YtfaifadfilndmaaRegC
import Derived.Test.YtfaifadfilndmaaMade
import Derived.IntWalk
namespace Go.Proofs.Ytfaifadfilndmaa
open Go.RowKit Go.Shelf
attribute [local go_sem ↓] n_shlp

theorem fees_ok {ls : List (Sls Int)} (h : feesCheck ls = 0) : ls.length ≤ 8 ∧ (∀ s ∈ ls, s.l.length = ls.length) ∧ ∀ i j, -1048576 ≤ gridF ls i j ∧ gridF ls i j ≤ 1048576 := by
  unfold feesCheck at h
  split at h
  · cases h
  · split at h
    · cases h
    · split at h
      · cases h
      · rename_i h0 h1 h2
        refine ⟨by omega, fun s hs => ?_, fun i j => ?_⟩
        · have := List.any_eq_false.1 (eq_false_of_ne_true h1) s hs
          simpa using this
        · by_cases hi : i < ls.length
          · rw [gridF_at hi]
            by_cases hj : j < ls[i].l.length
            · rw [getD_at _ j hj 0]
              have h3 := List.any_eq_false.1 (eq_false_of_ne_true h2) _ (List.getElem_mem hi)
              have h4 := List.any_eq_false.1 (eq_false_of_ne_true h3) _ (List.getElem_mem hj)
              unfold feeBad at h4
              simp at h4
              omega
            · rw [List.getD_eq_getElem?_getD, List.getElem?_eq_none (by omega)]
              simp
          · have : gridF ls i j = 0 := by
              unfold gridF
              show ((ls.map (·.l))[i]?.getD []).getD j 0 = _
              rw [List.getElem?_map, List.getElem?_eq_none (by omega)]
              rfl
            rw [this]; omega
theorem wrap_pwn {i : Nat} (h : i ≤ 8) : IntKind.i64.wrap ((2 : Int) ^ i) = ((pw i : Nat) : Int) := by
  have e : ((2 : Int) ^ i) = ((pw i : Nat) : Int) := by unfold pw; rw [Int.natCast_pow]; rfl
  have h2 : pw i ≤ 256 := Nat.pow_le_pow_right (n := 2) (by omega) (show i ≤ 8 by omega)
  rw [e]
  exact IntWalk.i64_in _ (by omega)
theorem wrap64_pwn {i : Nat} (h : i ≤ 8) : wrap64 ((2 : Int) ^ i) = ((pw i : Nat) : Int) := by
  have e : ((2 : Int) ^ i) = ((pw i : Nat) : Int) := by unfold pw; rw [Int.natCast_pow]; rfl
  have h2 : pw i ≤ 256 := Nat.pow_le_pow_right (n := 2) (by omega) (show i ≤ 8 by omega)
  rw [e]
  unfold wrap64
  omega
/-- The table by now: the sets from k on have their entries. -/
def TabV (f : Nat → Nat → Int) (n N k : Nat) (cs : Array Value) : Prop := cs.size = N ∧ ∀ v, k ≤ v → v < N → cs[v]? = some (.int .i64 (tv f n v))
theorem TabV.set {f : Nat → Nat → Int} {n N k q : Nat} {cs : Array Value} {x : Value} (h : TabV f n N k cs) (hq : q < k) : TabV f n N k (cs.setIfInBounds q x) :=
  ⟨by rw [Array.size_setIfInBounds]; exact h.1, fun v hv hN => by rw [Array.getElem?_setIfInBounds_ne (by omega)]; exact h.2 v hv hN⟩
theorem TabV.next {f : Nat → Nat → Int} {n N q : Nat} {cs : Array Value} (h8 : n ≤ 8) (hN : N = pw n) (hq : q + 1 < N) (h : TabV f n N (q + 1) cs) (h0 : cs[q]? = some (.int .i64 (minF (f (pop8 q)) (tv f n) q n))) (hp : pop8 q < n) : TabV f n N q cs :=
  ⟨h.1, fun v hv hvN => by
    by_cases e : v = q
    · subst e
      rw [h0, tv_eq h8 (by omega) hp]
    · exact h.2 v (by omega) hvN⟩
theorem or_gt {w j : Nat} (h : w.testBit j = false) : w < nOr w (pw j) := by
  unfold nOr pw
  refine Nat.lt_of_le_of_ne Nat.left_le_or fun e => ?_
  have := congrArg (fun z => z.testBit j) e
  simp only [Nat.testBit_or, Nat.testBit_two_pow_self, h] at this
  cases this
theorem or_lt {w j n : Nat} (hw : w < pw n) (hj : j < n) : nOr w (pw j) < pw n := by
  unfold nOr pw at *
  exact Nat.or_lt_two_pow hw (Nat.pow_lt_pow_right (by omega) hj)

set_option maxRecDepth 100000 in
set_option maxHeartbeats 4000000 in
theorem fee_Assign (ls : List (Sls Int)) (A : Option Addr) (n c : Nat) (w : World) (hl : ls.length = n) (hn : n ≤ maxLen) (hr : Els w w.heap.size 1 rcell A ls) (hg : ∀ s ∈ ls, s.Good w w.heap.size 1 icell OkI) :
    Calls Try.prog 8 #[.slice A n c] w fun e w' => ∃ (A' : Option Addr) (k cap : Nat) (x : Int), e = .returned (.tuple #[.slice A' k cap, .int .i64 x, .int .i64 (feesCheck ls)]) ∧ Below w.heap.size w w' ∧ (feesCheck ls ≠ 0 → k = 0 ∧ x = 0) ∧
      (feesCheck ls = 0 → x = (asgF (gridF ls) n n []).2 ∧ k = (asgF (gridF ls) n n []).1.length ∧ Els w' w'.heap.size 1 icell A' (intsOf (asgF (gridF ls) n n []).1)) := by
  have HGR := Lib.hid (fee_grid ls A n c w hl hn hr hg)
  obtain ⟨S, hS⟩ : ∃ S, S = w.heap.size := ⟨_, rfl⟩
  rw [← hS] at HGR hr hg ⊢
  have HL := Lib.hid hl
  have HR := Lib.hid hr
  have HG := Lib.hid hg
  have HS := Lib.hid hS
  clear hl hr hg hS
  go_enter Try.func8, Try.ntmps8
  go_wp2_with fail
  refine HGR.out.mono ?_
  clear HGR
  rintro e v1 ⟨rfl, hb1⟩
  have HB1 := Lib.hid hb1
  have hz1 := hb1.size
  rw [← HS.out] at hz1
  clear hb1
  by_cases h0 : feesCheck ls = 0
  · obtain ⟨h8, hwid, hbd⟩ := fees_ok h0
    rw [HL.out] at h8 hwid
    have hgrid : Grid w S n A ls := ⟨HR.out, fun s hs => by rw [HS.out]; rw [HS.out] at HG; exact (HG.out s hs).2.2.1, HL.out, hwid⟩
    have HGRID := Lib.hid hgrid
    have HBD := Lib.hid hbd
    rw [h0]
    have HZ := Lib.hid h0
    obtain ⟨N, hN⟩ : ∃ N, N = pw n := ⟨_, rfl⟩
    have hpw : N ≤ 256 := by rw [hN]; exact pow_le_256 h8
    have hpw1 : 1 ≤ N := by rw [hN]; exact Nat.one_le_two_pow
    have HN := Lib.hid hN
    have hpn := wrap64_pwn h8
    have hpn2 := wrap_pwn h8
    rw [← hN] at hpn hpn2
    have HROW : Hid (∀ (w' : World), Below S w w' → ∀ i, i < n → ∃ (b off : Nat), A = some ⟨b, off, none⟩ ∧ w'.cell? ⟨b, off + i, none⟩ = some (.slice (rowS ls i).A n (rowS ls i).c) ∧
        ∀ j, j < n → ∃ b2 off2, (rowS ls i).A = some ⟨b2, off2, none⟩ ∧ w'.cell? ⟨b2, off2 + j, none⟩ = some (.int .i64 (gridF ls i j))) := Lib.hid (fun w' hb i hi => by
      obtain ⟨b, off, h1, _, h2, h3⟩ := (hgrid.below hb).cells hi
      exact ⟨b, off, h1, h2, fun j hj => by
        obtain ⟨b2, off2, h4, _, h5⟩ := h3 j hj
        exact ⟨b2, off2, h4, h5⟩⟩)
    have hi1 : (Try.prog.info? 2).map (fun i => (i.zero, i.size, i.bytes)) = some (some (.int .i64 0), 1, 8) := rfl
    obtain ⟨i1, a1, b1, c1', d1⟩ := info_parts hi1
    have hm1 : ∀ W : World, (Instr.makeSlice 35 (.int .i64 N) (.int .i64 N)).run Try.prog W = .ok (.slice (some ⟨W.heap.size, 0, none⟩) N N) (W.alloc (.cells (madeCells #[.int .i64 0] N) 2)) := fun W => by
      have := run_make (P := Try.prog) W 35 2 i1 (.int .i64 0) (by kernel_rfl) a1 b1 .i64 .i64 N N (by omega) (Int.le_refl _) (by rw [d1]; omega) (by omega)
      rw [c1', show (Value.int IntKind.i64 0).cells = #[Value.int .i64 0] from rfl] at this
      simpa using this
    have hcs : TabV (gridF ls) n N (N - 1) (madeCells #[.int .i64 0] N) := by
      refine ⟨by simp [madeCells], fun v hv hvN => ?_⟩
      obtain rfl : v = N - 1 := by omega
      have ht : tv (gridF ls) n (N - 1) = 0 := by rw [HN.out]; exact tv_full h8
      rw [ht]
      have hsz : (madeCells #[Value.int .i64 0] N).size = N := by simp [madeCells]
      rw [Array.getElem?_eq_getElem (by omega)]
      congr 1
      unfold madeCells
      simp [Nat.mod_one]
    obtain ⟨cs, hcse⟩ : ∃ cs, cs = madeCells #[.int .i64 0] N := ⟨_, rfl⟩
    rw [← hcse] at hcs
    simp only [← hcse] at hm1
    have HCS := Lib.hid hcs
    clear hcse hcs hi1 a1 b1 c1' d1 hwid hbd hgrid h0 hN
    go_wp2_with fail
    obtain ⟨V, hV⟩ : ∃ V, V = v1.alloc (.cells cs 2) := ⟨_, rfl⟩
    obtain ⟨G, hG⟩ : ∃ G, G = v1.heap.size := ⟨_, rfl⟩
    rw [← hV, ← hG]
    have hbV : Below S w V := by
      have h := HB1.out
      rw [hV]; exact h.alloc hz1 _
    have hkV : Blk V G 2 cs := by rw [hV, hG]; exact Blk.new _ _ _
    have hSG : S ≤ G := by omega
    have HBV := Lib.hid hbV
    have HKV := Lib.hid hkV
    clear hbV hkV hV hG hm1 hpn hpn2
    go_loopw [8] (fun s8 wr => ∃ (z : Int) (k : Nat) (cs : Array Value), s8 = .int .i64 z ∧ z + 1 = k ∧ k + 1 ≤ N ∧ Below S w wr ∧ Blk wr G 2 cs ∧ TabV (gridF ls) n N k cs) (fun s8 _ => (intOf s8 + 1).toNat)
    case atStart => exact ⟨_, N - 1, cs, rfl, by omega, by omega, HBV.out, HKV.out, HCS.out⟩
    case round =>
      clear HBV HKV HCS
      rename World => wr
      obtain ⟨z, k, cs, rfl, hzk, hk, hb, hkG, htI⟩ := hrel
      have hGlt := hkG.lt
      have HB := Lib.hid hb
      have HK := Lib.hid hkG
      have HT := Lib.hid htI
      clear hb hkG htI
      by_cases hz0 : 0 ≤ z
      · obtain ⟨q, rfl⟩ : ∃ q : Nat, z = q := ⟨z.toNat, by omega⟩
        obtain rfl : k = q + 1 := by omega
        clear hzk hz0
        have hq256 : q < 256 := by omega
        have hpp : pop8 q < n := by
          refine Classical.byContradiction fun hc => ?_
          have := pop8_full (n := n) (w := q) h8 (by rw [← HN.out]; omega) (by omega)
          rw [← HN.out] at this
          omega
        have hcv := wrap_u64 q hq256
        obtain ⟨u0, hu0⟩ : ∃ u, cs[q]? = some u := ⟨_, Array.getElem?_eq_getElem (by have := HT.out.1; omega)⟩
        have y0 := HK.out.cell q
        have f0 := HK.out.frozen q
        rw [hu0] at y0
        obtain ⟨w2, hw2⟩ : ∃ w2, w2 = wr.setCell ⟨G, q, none⟩ (.int .i64 1152921504606846976) := ⟨_, rfl⟩
        have hb2 : Below S w w2 := by rw [hw2]; exact HB.out.setCell (p := ⟨G, q, none⟩) hSG _
        have hk2 : Blk w2 G 2 (cs.setIfInBounds q (.int .i64 1152921504606846976)) := by rw [hw2]; exact HK.out.put q _
        have ht2 := HT.out.set (q := q) (x := .int .i64 1152921504606846976) (by omega)
        have hcur : (cs.setIfInBounds q (.int .i64 1152921504606846976))[q]? = some (.int .i64 (minF (gridF ls (pop8 q)) (tv (gridF ls) n) q 0)) := by
          rw [Array.getElem?_setIfInBounds_self_of_lt (by have := HT.out.1; omega)]
          rfl
        have HOC := Lib.hid (OnesCount_small q hq256 w2)
        obtain ⟨p, hp⟩ : ∃ p, p = pop8 q := ⟨_, rfl⟩
        rw [← hp] at hpp HOC hcur
        obtain ⟨b, off, hA, c0, hrow⟩ := HROW.out w2 hb2 p hpp
        subst hA
        obtain ⟨A2, hA2⟩ : ∃ x, x = (rowS ls p).A := ⟨_, rfl⟩
        obtain ⟨c2, hc2⟩ : ∃ x, x = (rowS ls p).c := ⟨_, rfl⟩
        have hROW2 : ∀ (w' : World), Below S w w' → ∀ j, j < n → ∃ b2 off2, A2 = some ⟨b2, off2, none⟩ ∧ w'.cell? ⟨b2, off2 + j, none⟩ = some (.int .i64 (gridF ls p j)) := fun w' hb j hj => by
          obtain ⟨b, off, _, _, h⟩ := HROW.out w' hb p hpp
          obtain ⟨b2, off2, h1, h2⟩ := h j hj
          exact ⟨b2, off2, hA2.trans h1, h2⟩
        have HROW2 := Lib.hid hROW2
        rw [← hA2, ← hc2] at c0
        have HW2 := Lib.hid hw2
        have HB2 := Lib.hid hb2
        have HK2 := Lib.hid hk2
        have HT2 := Lib.hid ht2
        have HCU := Lib.hid hcur
        have HP := Lib.hid hp
        clear hu0 hb2 hk2 ht2 hcur hrow hROW2 hA2 hc2 hw2 hp
        go_wp2_with fail
        rw [← HW2.out]
        refine HOC.out.mono ?_
        clear HOC
        rintro e w3 ⟨rfl, rfl⟩
        clear y0 f0
        go_wp2_with fail
        go_loopw [43] (fun s43 wr => ∃ (j : Nat) (cs : Array Value), j ≤ n ∧ s43 = .int .i64 j ∧ Below S w wr ∧ Blk wr G 2 cs ∧ TabV (gridF ls) n N (q + 1) cs ∧ cs[q]? = some (.int .i64 (minF (gridF ls p) (tv (gridF ls) n) q j))) (fun s43 _ => n - (intOf s43).toNat)
        case atStart => exact ⟨0, _, by omega, rfl, HB2.out, HK2.out, HT2.out, HCU.out⟩
        case round =>
          clear HB2 HK2 HT2 HCU c0
          rename World => wr
          obtain ⟨j, cs, hj, rfl, hb, hkG, htI, hcur⟩ := hrel
          have HB := Lib.hid hb
          have HK := Lib.hid hkG
          have HT := Lib.hid htI
          have HCU := Lib.hid hcur
          clear hb hkG htI hcur
          by_cases hlt : j < n
          · have hbit := n_bit0 q j (by omega)
            have hst : minF (gridF ls p) (tv (gridF ls) n) q (j + 1) = if q.testBit j then minF (gridF ls p) (tv (gridF ls) n) q j else if gridF ls p j + tv (gridF ls) n (nOr q (pw j)) < minF (gridF ls p) (tv (gridF ls) n) q j then gridF ls p j + tv (gridF ls) n (nOr q (pw j)) else minF (gridF ls p) (tv (gridF ls) n) q j := minF_succ _ _ _ _
            obtain ⟨b2, off2, hA2, c1⟩ := HROW2.out wr HB.out j hlt
            subst hA2
            rcases bool_orL (q.testBit j) with hb | hb
            · rw [hb] at hbit hst
              have hor := n_or q (pw j) (by omega) (by have := pow_le_256 (n := j) (by omega); omega)
              have hvq := or_gt hb
              have hvN : nOr q (pw j) < N := by rw [HN.out]; exact or_lt (by rw [← HN.out]; omega) hlt
              have htb := tv_bound (f := gridF ls) h8 HBD.out (w := nOr q (pw j)) (by rw [← HN.out]; exact hvN)
              have hxb := HBD.out p j
              have hpj := wrap_pwn (i := j) (by omega)
              have y1 := HK.out.cell (nOr q (pw j))
              have y0 := HK.out.cell q
              have f0 := HK.out.frozen q
              rw [HT.out.2 _ (by omega) hvN] at y1
              rw [HCU.out] at y0
              obtain ⟨cur, hcure⟩ : ∃ x, x = minF (gridF ls p) (tv (gridF ls) n) q j := ⟨_, rfl⟩
              obtain ⟨v, hv⟩ : ∃ x, x = nOr q (pw j) := ⟨_, rfl⟩
              obtain ⟨T, hTe⟩ : ∃ x, x = tv (gridF ls) n v := ⟨_, rfl⟩
              obtain ⟨x, hx⟩ : ∃ x, x = gridF ls p j := ⟨_, rfl⟩
              rw [← hcure, ← hv, ← hTe, ← hx] at hst
              rw [← hv] at hor hvq hvN htb y1
              rw [← hTe] at htb y1
              rw [← hcure] at y0
              rw [← hx] at hxb c1
              have hws : IntKind.i64.wrap (x + T) = x + T := IntWalk.i64_in _ (by omega)
              have hqN : q < N := by omega
              have HST := Lib.hid hst
              clear hb hst hcure hv hTe hx
              go_wp2_with fail
              have e0 : wr.drew.cell? ⟨G, v, none⟩ = some (.int .i64 T) := y1
              have e1 : wr.drew.cell? ⟨G, q, none⟩ = some (.int .i64 cur) := y0
              have e2 : wr.drew.frozen? ⟨G, q, none⟩ = false := f0
              clear y0 y1 f0 c1
              refine region_plain 17 18 (fun w' => w' = wr.drew) (by kernel_rfl) rfl ?_
              refine anyC_reads (by kernel_rfl) [0, 1, 2, 3, 4, 5, 6, 7, 8, 9, 10, 11, 12, 13, 14] ?opz ?ohz 3 _ _ _ (by kernel_rfl) ?okz
              case ohz => (simp only [List.filterMap_cons, List.filterMap_nil, List.getElem?_toArray, List.getElem?_cons_zero, List.getElem?_cons_succ]; try rfl)
              repeat (
                refine readC_step (v := ?_) rfl (fun w' hw' => ?_) ?_
                rotate_left
                focus (subst hw'; go_simp; try with_reducible rfl)
                go_simp)
              refine readC_nil ?_
              refine anyC_one (i := 15) (by kernel_rfl) rfl rfl (.inr rfl) ?_
              go_simp
              refine anyC_one (i := 16) (by kernel_rfl) rfl rfl (.inr rfl) ?_
              go_simp
              refine anyC_one (i := 17) (by kernel_rfl) rfl rfl (.inr rfl) ?_
              go_simp
              refine anyC_end (by kernel_rfl) (.inl rfl) ?_
              go_wp2_with fail
              go_roundw
              case rel => exact ⟨j + 1, _, by omega, by go_num, (HB.out.setCell (p := ⟨G, q, none⟩) hSG _).drew, (HK.out.put q _).drew, HT.out.set (by omega), by rw [Array.getElem?_setIfInBounds_self_of_lt (by have := HT.out.1; omega), HST.out]; rfl⟩
              case measure => simp [intOf]; omega
            · rw [hb] at hbit hst
              have HST := Lib.hid hst
              clear hb hst
              go_wp2_with fail
              go_roundw
              case rel => exact ⟨j + 1, cs, by omega, by go_num, HB.out, HK.out, HT.out, by rw [HST.out, HCU.out]; rfl⟩
              case measure => simp [intOf]; omega
          · obtain rfl : j = n := by omega
            go_wp2_with fail
            go_roundw
            case rel => exact ⟨_, q, cs, rfl, by omega, by omega, HB.out, HK.out, HT.out.next h8 HN.out (by omega) (by rw [← HP.out]; exact HCU.out) (by rw [← HP.out]; exact hpp)⟩
            case measure => first | (simp [intOf]; done) | (simp [intOf]; omega)
      · obtain rfl : k = 0 := by omega
        have HT0 := Lib.hid HT.out.2
        clear HT hzk
        go_wp2_with fail
        go_loopw [73, 11, 12] (fun s73 s11 s12 wr' => ∃ (k : Nat) (A1 : Option Addr) (cap : Nat) (l : List Nat), k ≤ n ∧ s73 = .int .i64 k ∧ s11 = .slice A1 k cap ∧ s12 = .int .i64 (wl l : Nat) ∧ l.length = k ∧ PathOk n l ∧ (asgF (gridF ls) n n []).1 = (asgF (gridF ls) n (n - k) l).1 ∧ Below S w wr' ∧ Own wr' (G + 1) 3 1 icell A1 cap (intsOf l) ∧ Blk wr' G 2 cs) (fun s73 _ _ _ => n - (intOf s73).toNat)
        case atStart => exact ⟨0, none, 0, [], by omega, rfl, rfl, rfl, rfl, ⟨by simp, fun i hi => by cases hi⟩, rfl, HB.out, Own.nil _ _ _ (fun _ => rfl), HK.out⟩
        case round =>
          clear HB HK
          rename World => wr'
          obtain ⟨k, A1, cap, l, hk, rfl, rfl, rfl, hlk, hok, hres, hb, ho, hkG⟩ := hrel
          have hz := hb.size
          have hG2 := hkG.lt
          have HLK := Lib.hid hlk
          have HOK := Lib.hid hok
          have HRES := Lib.hid hres
          have HB := Lib.hid hb
          have HO := Lib.hid ho
          have HK := Lib.hid hkG
          clear hb ho hkG hres
          by_cases hlt : k < n
          · obtain ⟨f, hf⟩ : ∃ f, n - k = f + 1 := ⟨n - k - 1, by omega⟩
            obtain ⟨j0, hj0, hc0, hl1, hv1, hbef⟩ := asg_step h8 HBD.out (k := f) hok (by omega)
            have hwl := wl_lt hok
            rw [← HN.out] at hwl
            have hwb := tv_bound (f := gridF ls) h8 HBD.out (wl_lt hok)
            have htv := tv_wl (f := gridF ls) h8 hok
            rw [hlk, hf] at htv
            have hsn : ∀ q, q < n → l.contains q = false → nOr (wl l) (pw q) < N ∧ tv (gridF ls) n (nOr (wl l) (pw q)) = (asgF (gridF ls) n f (l ++ [q])).2 ∧ PathOk n (l ++ [q]) := fun q hq hc => by
              have h1 := hok.snoc hq hc
              have h2 := tv_wl (f := gridF ls) h8 h1
              have h3 := wl_lt h1
              rw [wl_snoc] at h2 h3
              refine ⟨by rw [HN.out]; exact h3, ?_, h1⟩
              rw [h2, List.length_append, List.length_singleton, hlk]
              have : n - (k + 1) = f := by omega
              rw [this]
            rw [hlk] at hv1 hbef
            rw [← htv] at hv1 hbef
            obtain ⟨b, off, hA, c0, hrow⟩ := HROW.out wr' HB.out k hlt
            subst hA
            obtain ⟨A2, hA2⟩ : ∃ x, x = (rowS ls k).A := ⟨_, rfl⟩
            obtain ⟨c2, hc2⟩ : ∃ x, x = (rowS ls k).c := ⟨_, rfl⟩
            rw [← hA2, ← hc2] at c0
            have hrow3 : ∀ (w' : World), Below S w w' → ∀ j, j < n → ∃ b2 off2, A2 = some ⟨b2, off2, none⟩ ∧ w'.cell? ⟨b2, off2 + j, none⟩ = some (.int .i64 (gridF ls k j)) := fun w' hb j hj => by
              obtain ⟨b, off, _, _, h⟩ := HROW.out w' hb k hlt
              obtain ⟨b2, off2, h1, h2⟩ := h j hj
              exact ⟨b2, off2, hA2.trans h1, h2⟩
            obtain ⟨W0, hW0⟩ : ∃ x, x = wl l := ⟨_, rfl⟩
            obtain ⟨T0, hT0⟩ : ∃ x, x = tv (gridF ls) n W0 := ⟨_, rfl⟩
            rw [← hW0] at hwl hwb htv hsn hv1 hbef
            rw [← hT0] at hwb htv hv1 hbef
            have HROW3 := Lib.hid hrow3
            have HT00 := Lib.hid hT0
            have HSN := Lib.hid hsn
            have HV1 := Lib.hid hv1
            have HBEF := Lib.hid hbef
            have HL1 := Lib.hid hl1
            have HC0 := Lib.hid hc0
            have HW0 := Lib.hid hW0
            rw [← hW0]
            clear hrow hrow3 hsn hv1 hbef hl1 hc0 hA2 hc2 hlk hok htv hT0 hW0
            go_wp2_with fail
            go_loopw [15] (fun s15 wq => ∃ q : Nat, q ≤ j0 ∧ s15 = .int .i64 q ∧ Below S w wq ∧ Own wq (G + 1) 3 1 icell A1 cap (intsOf l) ∧ Blk wq G 2 cs) (fun s15 _ => n - (intOf s15).toNat)
            case atStart => exact ⟨0, by omega, rfl, HB.out, HO.out, HK.out⟩
            case round =>
              clear HB HO HK hz hG2 c0
              rename World => wq
              obtain ⟨q, hq, rfl, hb, ho, hkG⟩ := hrel
              have hz := hb.size
              have hG2 := hkG.lt
              have HB := Lib.hid hb
              have HO := Lib.hid ho
              have HK := Lib.hid hkG
              clear hb ho hkG
              have y0 := HK.out.cell W0
              rw [HT0.out _ (Nat.zero_le _) hwl, ← HT00.out] at y0
              have hbit := n_bit1 W0 q (by omega)
              rw [HW0.out, wl_bit, ← HW0.out] at hbit
              rcases bool_orL (l.contains q) with hc | hc
              · rw [hc] at hbit
                obtain ⟨hvN, htq, hokq⟩ := HSN.out q (by omega) hc
                obtain ⟨b2, off2, hA2, c1⟩ := HROW3.out wq HB.out q (by omega)
                subst hA2
                have hor := n_or W0 (pw q) (by omega) (by have := pow_le_256 (n := q) (by omega); omega)
                have hxb := HBD.out k q
                have hpj := wrap_pwn (i := q) (by omega)
                have hpj2 := wrap64_pwn (i := q) (by omega)
                have htb := tv_bound (f := gridF ls) h8 HBD.out (w := nOr W0 (pw q)) (by rw [← HN.out]; exact hvN)
                have y1 := HK.out.cell (nOr W0 (pw q))
                rw [HT0.out _ (Nat.zero_le _) hvN] at y1
                have hbq : q < j0 → gridF ls k q + tv (gridF ls) n (nOr W0 (pw q)) ≠ T0 := fun h => by rw [htq]; exact HBEF.out q h hc
                have heq : q = j0 → gridF ls k q + tv (gridF ls) n (nOr W0 (pw q)) = T0 := fun h => by rw [htq, h, HV1.out]
                obtain ⟨v, hv⟩ : ∃ x, x = nOr W0 (pw q) := ⟨_, rfl⟩
                obtain ⟨T, hTe⟩ : ∃ x, x = tv (gridF ls) n v := ⟨_, rfl⟩
                obtain ⟨x, hx⟩ : ∃ x, x = gridF ls k q := ⟨_, rfl⟩
                rw [← hv, ← hTe, ← hx] at hbq heq
                rw [← hv] at hor hvN htb y1
                rw [← hTe] at htb y1
                rw [← hx] at hxb c1
                have hws : IntKind.i64.wrap (x + T) = x + T := IntWalk.i64_in _ (by omega)
                by_cases hqj : q < j0
                · have hne : ((x + T) != T0) = true := by simpa using hbq hqj
                  have hqn : q < n := by omega
                  clear hpj2 hbq heq hc htq hokq hv hTe hx
                  go_wp2_with fail
                  have e0 : wq.drew.cell? ⟨G, W0, none⟩ = some (.int .i64 T0) := y0
                  have e1 : wq.drew.cell? ⟨G, v, none⟩ = some (.int .i64 T) := y1
                  have e2 : wq.drew.cell? ⟨b2, off2 + q, none⟩ = some (.int .i64 x) := c1
                  clear y0 y1 c1
                  refine region_plain 99 24 (fun w' => w' = wq.drew) (by kernel_rfl) rfl ?_
                  refine anyC_reads (by kernel_rfl) [0, 1, 2, 3, 4, 5, 6, 7, 8, 9, 10, 11, 12, 13, 14, 15, 16, 17, 18, 19, 20, 21, 22, 23] ?opa ?oha 0 _ _ _ (by kernel_rfl) ?oka
                  case oha => (simp only [List.filterMap_cons, List.filterMap_nil, List.getElem?_toArray, List.getElem?_cons_zero, List.getElem?_cons_succ]; try rfl)
                  repeat (first
                    | (refine readC_skip (by rfl) ?_
                       go_simp)
                    | (refine readC_step (v := ?_) rfl (fun w' hw' => ?_) ?_
                       rotate_left
                       focus (subst hw'; go_simp; try with_reducible rfl)
                       go_simp))
                  refine readC_nil ?_
                  refine anyC_end (by kernel_rfl) (.inr rfl) ?_
                  go_wp2_with fail
                  go_roundw
                  case rel => exact ⟨q + 1, by omega, by go_num, HB.out.drew, HO.out.drew, HK.out.drew⟩
                  case measure => simp [intOf]; omega
                · obtain rfl : q = j0 := by omega
                  have hne : ((x + T) != T0) = false := by simpa using heq rfl
                  have HV := Lib.hid hv
                  have HOQ := Lib.hid hokq
                  have he6 : intsOf l ++ [(q : Int)] = intsOf (l ++ [q]) := by simp [intsOf]
                  have HE6 := Lib.hid he6
                  have hb2x : Below S w wq.drew := HB.out.drew
                  have HB2X := Lib.hid hb2x
                  clear hpj2 hbq heq hc htq hokq hv hTe hx he6 hb2x
                  go_wp2_with fail
                  have e0 : wq.drew.cell? ⟨G, W0, none⟩ = some (.int .i64 T0) := y0
                  have e1 : wq.drew.cell? ⟨G, v, none⟩ = some (.int .i64 T) := y1
                  have e2 : wq.drew.cell? ⟨b2, off2 + q, none⟩ = some (.int .i64 x) := c1
                  clear y0 y1 c1
                  refine region_plain 99 24 (fun w' => w' = wq.drew) (by kernel_rfl) rfl ?_
                  refine anyC_reads (by kernel_rfl) [0, 1, 2, 3, 4, 5, 6, 7, 8, 9, 10, 11, 12, 13, 14, 15, 16, 17, 18, 19, 20, 21, 22, 23] ?opb ?ohb 0 _ _ _ (by kernel_rfl) ?okb
                  case ohb => (simp only [List.filterMap_cons, List.filterMap_nil, List.getElem?_toArray, List.getElem?_cons_zero, List.getElem?_cons_succ]; try rfl)
                  repeat (first
                    | (refine readC_skip (by rfl) ?_
                       go_simp)
                    | (refine readC_step (v := ?_) rfl (fun w' hw' => ?_) ?_
                       rotate_left
                       focus (subst hw'; go_simp; try with_reducible rfl)
                       go_simp))
                  refine readC_nil ?_
                  refine anyC_end (by kernel_rfl) (.inr rfl) ?_
                  obtain ⟨w5, hw5⟩ : ∃ w5, w5 = wq.drew := ⟨_, rfl⟩
                  rw [← hw5]
                  have HO5 : Hid (Own w5 (G + 1) 3 1 icell A1 cap (intsOf l)) := Lib.hid (by rw [hw5]; exact HO.out.drew)
                  have HK5 : Hid (Blk w5 G 2 cs) := Lib.hid (by rw [hw5]; exact HK.out.drew)
                  have HB5 : Hid (Below S w w5) := Lib.hid (by rw [hw5]; exact HB.out.drew)
                  have hz5 : S ≤ w5.heap.size := by rw [hw5, HS.out]; exact hz
                  have hG5 : G < w5.heap.size := by rw [hw5]; exact hG2
                  clear hw5 e0 e1 e2
                  go_wp2_with (at_builtin; go_loud (refine wpList_push rfl _ _ _ rfl (G + 1) 1 3 (.int .i64 0) 8 Try.underlying23 (by kernel_rfl) rfl (by omega) icell w5 #[.int .i64 q] A1 k cap (intsOf l) (by rw [intsOf, List.length_map]; exact HLK.out) rfl HO5.out 1 [(q : Int)] rfl rfl _ rfl rfl (by simp [Value.oneCell']) (by unfold maxLen; omega) (by omega) (by omega) ?_; intro A2 cap2 w4 hown2 hgrow hloc))
                  have hor2 : bits .or .i64 (W0 : Int) (pw q : Int) = (nOr W0 (pw q) : Nat) := by rw [hor, HV.out]
                  have hb6 : Below S w w4 := (HB5.out.alloc hz5 _).grown hgrow (by rw [size_alloc']; omega) (fun g hg => by have := (HO5.out.lt g hg).1; omega)
                  have hk6 : Blk w4 G 2 cs := (HK5.out.alloc _).grown hgrow (fun e => by have := (HO5.out.lt G e.symm).1; omega)
                  rw [HE6.out] at hown2
                  have HB6 := Lib.hid hb6
                  have HK6 := Lib.hid hk6
                  have HOW := Lib.hid hown2
                  clear hb6 hk6 hown2 hgrow hloc
                  go_wp2_with fail
                  go_roundw
                  case rel => exact ⟨k + 1, A2, cap2, l ++ [q], by omega, by go_num, rfl, by rw [wl_snoc, ← HW0.out, ← HV.out], by rw [List.length_append, HLK.out]; rfl, HOQ.out, by rw [HRES.out, hf, HL1.out, show n - (k + 1) = f by omega], HB6.out, HOW.out, HK6.out⟩
                  case measure => simp [intOf]; omega
              · rw [hc] at hbit
                have hqj : q ≠ j0 := fun e => by rw [e, HC0.out] at hc; cases hc
                clear hc
                go_wp2_with fail
                refine region_plain 99 24 (fun w' => w' = wq.drew) (by kernel_rfl) rfl ?_
                refine anyC_reads (by kernel_rfl) [0, 1, 2, 3, 4, 5, 6, 7, 8, 9, 10, 11, 12, 13, 14, 15, 16, 17, 18, 19, 20, 21, 22, 23] ?opc ?ohc 0 _ _ _ (by kernel_rfl) ?okc
                case ohc => (simp only [List.filterMap_cons, List.filterMap_nil, List.getElem?_toArray, List.getElem?_cons_zero, List.getElem?_cons_succ]; try rfl)
                repeat (first
                  | (refine readC_skip (by rfl) ?_
                     go_simp)
                  | (refine readC_step (v := ?_) rfl (fun w' hw' => ?_) ?_
                     rotate_left
                     focus (subst hw'; go_simp; try with_reducible rfl)
                     go_simp))
                refine readC_nil ?_
                refine anyC_end (by kernel_rfl) (.inr rfl) ?_
                go_wp2_with fail
                go_roundw
                case rel => exact ⟨q + 1, by omega, by go_num, HB.out.drew, HO.out.drew, HK.out.drew⟩
                case measure => simp [intOf]; omega
          · obtain rfl : k = n := by omega
            have hres2 : (asgF (gridF ls) k k []).1 = l := by
              rw [HRES.out, Nat.sub_self]; rfl
            have y0 := HK.out.cell 0
            rw [HT0.out 0 (Nat.le_refl _) (by omega)] at y0
            have ht0 : tv (gridF ls) k 0 = (asgF (gridF ls) k k []).2 := by
              have := tv_wl (f := gridF ls) h8 (l := []) ⟨by simp, fun i hi => by cases hi⟩
              exact this
            rw [ht0] at y0
            have hN0 : 0 < N := by omega
            have HR2 := Lib.hid hres2
            clear ht0 hres2
            go_wp2_with fail
            have e0 : wr'.drew.cell? ⟨G, 0, none⟩ = some (.int .i64 (asgF (gridF ls) k k []).2) := y0
            clear y0
            refine region_plain 99 7 (fun w' => w' = wr'.drew) (by kernel_rfl) rfl ?_
            refine anyC_reads (by kernel_rfl) [0, 1, 2, 3, 4, 5, 6] ?opy ?ohy 0 _ _ _ (by kernel_rfl) ?oky
            case ohy => (simp only [List.filterMap_cons, List.filterMap_nil, List.getElem?_toArray, List.getElem?_cons_zero, List.getElem?_cons_succ]; try rfl)
            repeat (
              refine readC_step (v := ?_) rfl (fun w' hw' => ?_) ?_
              rotate_left
              focus (subst hw'; go_simp; try with_reducible rfl)
              go_simp)
            refine readC_nil ?_
            refine anyC_end (by kernel_rfl) (.inr rfl) ?_
            go_wp2_with fail
            refine bodyPost_ret (v := .tuple #[.slice A1 k cap, .int .i64 (asgF (gridF ls) k k []).2, .int .i64 0]) (by simp [results, Try.results8, go_sem]) rfl ?_
            exact ⟨A1, k, cap, _, by rw [HZ.out], HB.out.drew, fun h => absurd HZ.out h, fun _ => ⟨rfl, by rw [HR2.out, HLK.out], by rw [HR2.out]; exact (HO.out.drew).els⟩⟩
  · have h1 : (feesCheck ls != 0) = true := by simpa using h0
    have H0 := Lib.hid h0
    obtain ⟨x, hx⟩ : ∃ x, x = feesCheck ls := ⟨_, rfl⟩
    rw [← hx] at h1 ⊢
    have HX := Lib.hid hx
    clear h0 hx
    go_wp2_with fail
    refine bodyPost_ret (v := .tuple #[.slice none 0 0, .int .i64 0, .int .i64 x]) (by simp [results, Try.results8, go_sem]) rfl ?_
    exact ⟨none, 0, 0, 0, by rw [HX.out], HB1.out, fun _ => ⟨rfl, rfl⟩, fun h => absurd h H0.out⟩
end Go.Proofs.Ytfaifadfilndmaa
