/- May a map be: the program's walk. Conditions: the edges and the rounds read as lists. -/
import Derived.Test.YtlflnfelhndohaaDoorMapsHoles23
import Derived.Test.YtlflnfelhndohaaDoorMapsHoles24
import Derived.Test.YtlflnfelhndohaaDoorMapsHoles4
namespace Go.Proofs.YtlflnfelhndohaaDoor
open Go.RowKit Go.Shelf

set_option maxRecDepth 100000 in
theorem Equal_ints (A A' : Option Addr) (n k c c' : Nat) (l m : List Int) (B B' : Nat) (w : World) (hl : l.length = n) (hm : m.length = k) (hn : n ≤ maxLen) (hr : Els w B 1 icell A l) (hr' : Els w B' 1 icell A' m) :
    Calls Tryd.prog 31 #[.slice A n c, .slice A' k c'] w fun e w' => e = .returned (.bool (decide (l = m))) ∧ ∃ q, w' = w.drewN q := by
  unfold maxLen at hn
  have HL := Lib.hid hl
  have HM := Lib.hid hm
  clear hl hm
  by_cases hnk : n = k
  · subst hnk
    have hb : ((n : Int) != (n : Int)) = false := by simp
    go_enter Tryd.func31, Tryd.ntmps31
    go_wp2_with fail
    go_loopw [13] (fun s13 wr => ∃ i : Nat, i ≤ n ∧ s13 = .int .i64 i ∧ (∃ q, wr = w.drewN q) ∧ l.take i = m.take i) (fun s13 _ => n - (intOf s13).toNat)
    case atStart => exact ⟨0, Nat.zero_le _, rfl, ⟨0, rfl⟩, by simp⟩
    case round =>
      rename World => wr
      obtain ⟨i, hi, rfl, hq, ht⟩ := hrel
      have HQ := Lib.hid hq
      have hrw : Els wr B 1 icell A l := by obtain ⟨q, rfl⟩ := hq; exact hr.drewN q
      have hrw' : Els wr B' 1 icell A' m := by obtain ⟨q, rfl⟩ := hq; exact hr'.drewN q
      have HQN : Hid (∀ k, ∃ q, wr.drewN k = w.drewN q) := Lib.hid fun k => by obtain ⟨q, rfl⟩ := hq; exact ⟨_, World.drewN_drewN _ _ _⟩
      clear hq
      have HT := Lib.hid ht
      clear ht
      by_cases hlt : i < n
      · have hil : i < l.length := by rw [HL.out]; exact hlt
        have him : i < m.length := by rw [HM.out]; exact hlt
        obtain ⟨b1, o1, rfl, _, x0⟩ := hrw.at1 (f := fun x : Int => .int .i64 x) hil
        obtain ⟨b2, o2, rfl, _, y0⟩ := hrw'.at1 (f := fun x : Int => .int .i64 x) him
        have HS1 := Lib.hid (List.take_succ_eq_append_getElem hil)
        have HS2 := Lib.hid (List.take_succ_eq_append_getElem him)
        have HN : Hid (l[i] ≠ m[i] → l ≠ m) := Lib.hid fun h e => h (by subst e; rfl)
        obtain ⟨x, hx⟩ : ∃ x, x = l[i] := ⟨_, rfl⟩
        obtain ⟨y, hy⟩ : ∃ y, y = m[i] := ⟨_, rfl⟩
        rw [← hx] at x0 HS1 HN
        rw [← hy] at y0 HS2 HN
        clear hx hy hil him hrw hrw'
        by_cases hxy : x = y
        · have hb1 : (x != y) = false := by simp [hxy]
          have hb2 : (x == y) = true := by simp [hxy]
          have HXY := Lib.hid hxy
          clear hxy
          go_wp2_with fail
          go_quiet (fail)
          go_wp2_with fail
          go_roundw
          case rel => exact ⟨i + 1, by omega, by go_num, HQN.out _, by rw [HS1.out, HS2.out, HT.out, HXY.out]⟩
          case measure => simp [intOf]; omega
        · have hb1 : (x != y) = true := by simp [hxy]
          have hb2 : (x == y) = false := by simp [hxy]
          have hres := HN.out hxy
          have HR := Lib.hid (decide_eq_false hres)
          clear hxy hres
          go_wp2_with fail
          go_quiet (fail)
          go_wp2_with fail
          go_ret
          exact ⟨by rw [HR.out]; rfl, HQN.out _⟩
      · obtain rfl : n = i := by omega
        have hres : l = m := by
          have := HT.out
          rwa [List.take_of_length_le (by rw [HL.out]; exact Nat.le_refl _), List.take_of_length_le (by rw [HM.out]; exact Nat.le_refl _)] at this
        have HR := Lib.hid (decide_eq_true hres)
        clear hres
        go_wp2_with fail
        go_ret
        exact ⟨by rw [HR.out]; rfl, HQ.out⟩
  · have hb : ((n : Int) != (k : Int)) = true := by simp; omega
    have hb2 : ((n : Int) == (k : Int)) = false := by simp; omega
    have HR : Hid (decide (l = m) = false) := Lib.hid (decide_eq_false fun h => hnk (by rw [← HL.out, ← HM.out, h]))
    go_enter Tryd.func31, Tryd.ntmps31
    go_wp2_with fail
    go_ret
    exact ⟨by rw [HR.out]; rfl, 0, rfl⟩
theorem Held.grows2 {g : Nat} {w w' : World} (h : Held [g] w w') : w.grownBy w' (some g) :=
  ⟨h.os, h.tape, h.output, h.size, fun k hk hx => h.block k hk (fun hm => hx (by rw [List.mem_singleton.1 hm]))⟩
theorem Own.le_max2 {α : Type} {w : World} {B c cap : Nat} {e : TypeId} {f : α → List Value} {A : Option Addr} {l : List α} (h : Own w B e c f A cap l) : l.length ≤ maxLen := by
  rcases h.2.2 with ⟨_, h0⟩ | ⟨g, cp, cur, _, _, _, hn, hm, _⟩
  · rw [h0]; unfold maxLen; omega
  · exact Nat.le_trans hn hm
theorem rows_at {rows : List (Sls Int)} {i : Nat} (h : i < rows.length) : (rows.map Sls.l).getD i [] = rows[i].l := by
  rw [getD_at _ i (by rw [List.length_map]; exact h), List.getElem_map]
set_option maxRecDepth 100000 in
set_option maxHeartbeats 2000000 in
theorem maps_Check (N : Int) (A RA : Option Addr) (n c m rc : Nat) (l : List Ed) (rows : List (Sls Int)) (w : World) (htab : TabOk w) (hl : l.length = n) (hn : n ≤ maxLen) (hr : Els w w.heap.size 3 Ed.cells A l) (hm : rows.length = m)
    (hR : Els w w.heap.size 1 (fun s : Sls Int => [s.val]) RA rows) (hrow : ∀ s ∈ rows, Els w w.heap.size 1 icell s.A s.l ∧ s.l.length ≤ 17592186044415) :
    Calls Tryd.prog 12 #[.agg #[.int .i64 N, .slice A n c], .slice RA m rc] w fun e w' => e = .returned (.int .i64 (mapCode N l (rows.map Sls.l))) ∧ Below w.heap.size w w' := by
  have hb0 := (Below.refl w.heap.size w).alloc (Nat.le_refl _) (.cells #[.int .i64 N, .slice A n c] 24)
  have hB0 := Blk.new w 24 #[.int .i64 N, .slice A n c]
  have HW := Lib.hid (graph_Check N A n c l (w.alloc (.cells #[.int .i64 N, .slice A n c] 24)) hl hn ((hr.alloc (Nat.le_refl _) _).more (by rw [size_alloc']; omega)))
  have HL := Lib.hid hl
  have HR := Lib.hid hr
  have HRR := Lib.hid hR
  have HRW := Lib.hid hrow
  have HM := Lib.hid hm
  have HT := Lib.hid htab
  have HB0 := Lib.hid hb0
  have HK0 := Lib.hid hB0
  have c0 := hB0.cell 0
  have c1 := hB0.cell 1
  have hRl : (rows.map Sls.l).length = m := by rw [List.length_map, hm]
  have HRL := Lib.hid hRl
  clear hr hb0 hB0 hl hR hrow hm htab hRl
  go_enter Tryd.func12, Tryd.ntmps12
  go_wp2_with fail
  refine HW.out.mono ?_
  clear HW
  rintro e v1 ⟨rfl, hb1⟩
  have hk1 := HK0.out.below hb1 (by rw [size_alloc']; omega)
  have hb1' := HB0.out.trans (hb1.mono (by rw [size_alloc']; omega))
  have hz1 := hb1'.size
  have HB1 := Lib.hid hb1'
  clear c0 c1 hb1 hb1' HK0 HB0
  have c0 := hk1.cell 0
  have c1 := hk1.cell 1
  clear hk1
  by_cases h0 : graphCheck N l = 0
  · by_cases hmN : (m : Int) = N
    · obtain ⟨m', rfl, hg⟩ := graph_good h0
      obtain rfl : m = m' := by omega
      have hm10 := hg.n10
      have hne : ((m : Int) != (m : Int)) = false := by simp
      have hne2 : ((m : Int) == (m : Int)) = true := by simp
      have HG := Lib.hid hg
      have HC := Lib.hid (map_rows h0 HRL.out)
      have HN := Lib.hid (graph_Near m A n c l v1 HL.out hg ((HR.out.below HB1.out).more hz1))
      rw [h0]
      clear h0 hg hmN
      go_wp2_with fail
      refine HN.out.mono ?_
      clear HN
      rintro e v2 ⟨A1, rfl, hb2, hown2⟩
      have hb2' := HB1.out.trans (hb2.mono hz1)
      have hz2 := hb2'.size
      have HB2 := Lib.hid hb2'
      have HE2 := Lib.hid hown2.els
      clear hb2 hb2' hown2 c0 c1 HB1
      go_wp2_with fail
      go_loopw [21] (fun s21 wr => ∃ i : Nat, i ≤ m ∧ s21 = .int .i64 i ∧ Below v2.heap.size v2 wr ∧ (List.range i).any (fun i => !rowOk m l i ((rows.map Sls.l).getD i [])) = false) (fun s21 _ => m - (intOf s21).toNat)
      case atStart => exact ⟨0, Nat.zero_le _, rfl, Below.refl _ _, rfl⟩
      case round =>
        rename World => wr
        obtain ⟨i, hi, rfl, hb, hany⟩ := hrel
        have hzr := hb.size
        have hbw := HB2.out.trans (hb.mono hz2)
        have hzw := hbw.size
        have HB := Lib.hid hb
        have HBW := Lib.hid hbw
        have HA := Lib.hid hany
        by_cases hlt : i < m
        · obtain ⟨bw, ow, rfl, _, g0⟩ := (HE2.out.below hb).at1 (k := i) (by rw [nearL_length]; exact hlt)
          rw [← lw_at _ i (by rw [nearL_length]; exact hlt)] at g0
          have hir : i < rows.length := by rw [HM.out]; exact hlt
          obtain ⟨br, orr, rfl, _, r0⟩ := (HRR.out.below hbw).at1 (f := fun s : Sls Int => s.val) hir
          obtain ⟨hel, hsz⟩ := HRW.out rows[i] (List.getElem_mem hir)
          have HS1 := Lib.hid (any_range_succ (fun i => !rowOk m l i ((rows.map Sls.l).getD i [])) i)
          have HS2 : Hid ((!rowOk m l i ((rows.map Sls.l).getD i [])) = true → (List.range m).any (fun i => !rowOk m l i ((rows.map Sls.l).getD i [])) = true) := Lib.hid fun h => any_range_of (p := fun i => !rowOk m l i ((rows.map Sls.l).getD i [])) hlt h
          have hok : rowOk m l i ((rows.map Sls.l).getD i []) = decide (sortI rows[i].l = bitsI (lw (nearL m l) i)) := by rw [rows_at hir]; rfl
          obtain ⟨⟨SA, sc, sl⟩, hs⟩ : ∃ s, s = rows[i] := ⟨_, rfl⟩
          rw [← hs] at r0 hel hsz hok
          simp only [Sls.val] at r0 hel hsz hok
          obtain ⟨sn, hsn⟩ : ∃ sn, sn = sl.length := ⟨_, rfl⟩
          rw [← hsn] at r0 hsz
          obtain ⟨x, hx⟩ : ∃ x, x = lw (nearL m l) i := ⟨_, rfl⟩
          rw [← hx] at g0 hok
          have HOK := Lib.hid hok
          have HSN := Lib.hid hsn.symm
          -- the values
          have HV := Lib.hid (val_calls sn sc SA wr)
          have hV1 : Below wr.heap.size wr (wr.alloc (.cells #[.slice SA sn sc] 25)) := (Below.refl _ _).alloc (Nat.le_refl _) _
          have HSO := Lib.hid (Sorted_values sn w.heap.size wr.heap.size sc hsz SA sl hsn.symm (wr.alloc (.cells #[.slice SA sn sc] 25)) (Blk.new _ _ _) ((hel.below hbw).below (hV1.mono hzw)) hzw)
          have hbV := hbw.trans (hV1.mono hzw)
          have HBV := Lib.hid hbV
          have hbV2 := hb.trans (hV1.mono hzr)
          have HBV2 := Lib.hid hbV2
          clear hb hbw hany hir hel hs hsn hx hok hV1 hbV hbV2
          go_wp2_with fail
          refine HV.out.mono ?_
          clear HV
          rintro e wv ⟨rfl, rfl⟩
          go_wp2_with fail
          refine HSO.out.mono ?_
          clear HSO
          rintro e v3 ⟨A3, cap3, rfl, hb3, ho3⟩
          have hzV := HBV.out.size
          have hzV2 := HBV2.out.size
          have hb3' := HBV.out.trans (hb3.mono hzV)
          have hb32 := HBV2.out.trans (hb3.mono hzV2)
          have hz3 := hb3'.size
          have hz32 := hb32.size
          have HEA := Lib.hid (graph_Each x v3)
          have ht3 := HT.out.below hb3' HT.out.1
          have hV4 : Below v3.heap.size v3 (v3.alloc (.cells #[.int .u32 (wN x)] 46)) := (Below.refl _ _).alloc (Nat.le_refl _) _
          have HCB := Lib.hid (Collect_bits v3.heap.size x (v3.alloc (.cells #[.int .u32 (wN x)] 46)) (Blk.new _ _ _) (ht3.below hV4 ht3.1) ht3.1)
          have hb4 := hb3'.trans (hV4.mono hz3)
          have hb42 := hb32.trans (hV4.mono hz32)
          have HB4 := Lib.hid hb4
          have HB42 := Lib.hid hb42
          have HO4 := Lib.hid (ho3.alloc (.cells #[.int .u32 (wN x)] 46))
          have HLT3 := Lib.hid ho3.lt
          clear hb3 ho3 hb3' hb32 ht3 hV4 hb4 hb42 HBV HBV2
          go_wp2_with fail
          refine HEA.out.mono ?_
          clear HEA
          rintro e v4 ⟨rfl, rfl⟩
          go_wp2_with fail
          refine HCB.out.mono ?_
          clear HCB
          rintro e v5 ⟨A5, n5, cap5, rfl, hn5, hh5, ho5⟩
          have hz4 := HB4.out.size
          have hz42 := HB42.out.size
          have hb5 := HB4.out.trans (hh5.to (B := w.heap.size) hz4 (fun k hk => by rw [List.mem_singleton.1 hk]; exact hz3))
          have hb52 := HB42.out.trans (hh5.to (B := v2.heap.size) hz42 (fun k hk => by rw [List.mem_singleton.1 hk]; exact hz32))
          have ho3' : Own v5 _ 3 1 icell A3 cap3 (sortI sl) := HO4.out.kept hh5.grows2 (by
            cases hA : blkOf A3 with
            | none => exact .inl rfl
            | some k =>
              right
              intro e
              have h1 := (HLT3.out k hA).2
              have h2 : k = v3.heap.size := by simpa using e
              omega)
          have HEQ := Lib.hid (Equal_ints A3 A5 sn n5 cap3 cap5 (sortI sl) (bitsI x) _ _ v5 (by rw [sortI_len]; exact HSN.out) hn5.symm (by have := ho3'.le_max2; rwa [sortI_len, HSN.out] at this) ho3'.els ho5.els)
          have HB5 := Lib.hid hb5
          have HB52 := Lib.hid hb52
          clear hn5 hh5 ho5 hb5 hb52 ho3' HB4 HB42 HO4 HLT3
          go_wp2_with fail
          refine HEQ.out.mono ?_
          clear HEQ
          rintro e v6 ⟨rfl, q, rfl⟩
          rw [← HOK.out]
          cases hok : rowOk m l i ((rows.map Sls.l).getD i []) with
          | true =>
            have hnew : (List.range (i + 1)).any (fun i => !rowOk m l i ((rows.map Sls.l).getD i [])) = false := by rw [HS1.out, HA.out, hok]; rfl
            have HNEW := Lib.hid hnew
            clear hok hnew HS2
            go_wp2_with fail
            go_roundw
            case rel => exact ⟨i + 1, by omega, by go_num, below_drewN HB52.out _, HNEW.out⟩
            case measure => simp [intOf]; omega
          | false =>
            have hres : mapCode m l (rows.map Sls.l) = 3 := by rw [HC.out, HS2.out (by rw [hok]; rfl)]; rfl
            have HRES := Lib.hid hres
            clear hok hres HS2
            go_wp2_with fail
            go_ret
            exact ⟨by rw [HRES.out]; rfl, below_drewN HB5.out _⟩
        · obtain rfl : m = i := by omega
          have hres : mapCode m l (rows.map Sls.l) = 0 := by rw [HC.out, HA.out]; rfl
          have HRES := Lib.hid hres
          clear hres hany hb hbw
          go_wp2_with fail
          go_ret
          exact ⟨by rw [HRES.out]; rfl, HBW.out⟩
    · have HRES := Lib.hid (map_long h0 (by rw [HRL.out]; exact hmN))
      have hne : ((m : Int) != N) = true := by simp [hmN]
      have hne2 : ((m : Int) == N) = false := by simp [hmN]
      rw [h0]
      clear h0 hmN
      go_wp2_with fail
      go_ret
      exact ⟨by rw [HRES.out]; rfl, HB1.out⟩
  · have h1 : (graphCheck N l != 0) = true := by simpa using h0
    have HRES := Lib.hid (map_bad (R := rows.map Sls.l) h0)
    obtain ⟨x, hx⟩ : ∃ x, x = graphCheck N l := ⟨_, rfl⟩
    rw [← hx] at h1 HRES ⊢
    clear h0 hx
    go_wp2_with fail
    go_ret
    exact ⟨by rw [HRES.out]; rfl, HB1.out⟩
end Go.Proofs.YtlflnfelhndohaaDoor
