/- Does it go on getting cheaper: turn by turn over all steps. Conditions: the net is open; the distances are the caller's own. -/
import Derived.Test.YtjkfogkpacmdlaaFeeLeast12
import Derived.Test.YtjkfogkpacmdlaaFeeLeast13
import Derived.Test.YtjkfogkpacmdlaaFeeLeast3
import Derived.Test.YtjkfogkpacmdlaaFeeLeast14
namespace Go.Proofs.Ytjkfogkpacmdlaa
open Go.RowKit

abbrev arc0 : Arc := ⟨0, 0, 0, 0⟩
def isBack (k : Nat) : Bool := decide (k % 2 = 1)
/-- The steps, along an arc and back, one by one: is there room? -/
def stS (l : List Arc) (gs : List Int) (k : Nat) : Bool × StpZ := (decide (0 < roomS (l.getD (k / 2) arc0) (gs.getD (k / 2) 0) (isBack k)), ⟨(fromS (l.getD (k / 2) arc0) (isBack k)).toNat, (toS (l.getD (k / 2) arc0) (isBack k)).toNat, costS (l.getD (k / 2) arc0) (isBack k)⟩)
def stepsS (l : List Arc) (gs : List Int) (k : Nat) : List (Bool × StpZ) := (List.range k).map (stS l gs)
theorem stepsS_succ (l : List Arc) (gs : List Int) (k : Nat) : stepsS l gs (k + 1) = stepsS l gs k ++ [stS l gs k] := by simp [stepsS, List.range_succ]
/-- Part of a turn. -/
def partZ (l : List Arc) (gs : List Int) (d : Nat → Int) (k : Nat) : (Nat → Int) × Bool := (stepsS l gs k).foldl (fun d s => stepZ s.1 s.2 d) (d, false)
theorem partZ_succ (l : List Arc) (gs : List Int) (d : Nat → Int) (k : Nat) : partZ l gs d (k + 1) = stepZ (stS l gs k).1 (stS l gs k).2 (partZ l gs d k) := by
  unfold partZ
  rw [stepsS_succ, List.foldl_append]
  rfl
theorem stS_cost {N : Nat} {l : List Arc} {gs : List Int} (h : NetOk N l) (k : Nat) : -1048576 ≤ (stS l gs k).2.c ∧ (stS l gs k).2.c ≤ 1048576 := by
  show -1048576 ≤ costS (l.getD (k / 2) arc0) (isBack k) ∧ costS (l.getD (k / 2) arc0) (isBack k) ≤ 1048576
  have h1 : -1048576 ≤ (l.getD (k / 2) arc0).e ∧ (l.getD (k / 2) arc0).e ≤ 1048576 := by
    by_cases hk : k / 2 < l.length
    · rw [getD_at l _ hk]
      have := h.arcs _ (List.getElem_mem hk)
      omega
    · rw [List.getD_eq_getElem?_getD, List.getElem?_eq_none (by omega)]
      exact ⟨by decide, by decide⟩
  unfold costS
  split <;> omega
theorem partZ_low {N : Nat} {l : List Arc} {gs : List Int} (h : NetOk N l) {d : Nat → Int} {X : Int} (hd : ∀ j, X ≤ d j) : ∀ k j, X - 1048576 * k ≤ (partZ l gs d k).1 j
  | 0, j => by have := hd j; show X - 1048576 * ((0 : Nat) : Int) ≤ d j; omega
  | k + 1, j => by
    rw [partZ_succ]
    have h1 := fun j => partZ_low h (gs := gs) hd k j
    have h2 := stS_cost (gs := gs) h k
    unfold stepZ
    split
    · show X - 1048576 * ((k + 1 : Nat) : Int) ≤ updZ (partZ l gs d k).1 (stS l gs k).2.b ((partZ l gs d k).1 (stS l gs k).2.a + (stS l gs k).2.c) j
      unfold updZ
      have h3 := h1 (stS l gs k).2.a
      have h4 := h1 j
      split <;> omega
    · have := h1 j; omega
theorem partZ_high (l : List Arc) (gs : List Int) (d : Nat → Int) (k : Nat) (j : Nat) : (partZ l gs d k).1 j ≤ d j := fold_le (stepsS l gs k) (d, false) j
/-- So many whole turns. -/
def turnsZ (l : List Arc) (gs : List Int) (d : Nat → Int) : Nat → Nat → Int
  | 0 => d
  | r + 1 => (partZ l gs (turnsZ l gs d r) (2 * l.length)).1
theorem turnsZ_low {N : Nat} {l : List Arc} {gs : List Int} (h : NetOk N l) {d : Nat → Int} {X : Int} (hd : ∀ j, X ≤ d j) : ∀ r j, X - 62914560 * r ≤ turnsZ l gs d r j
  | 0, j => by have := hd j; show X - 62914560 * ((0 : Nat) : Int) ≤ d j; omega
  | r + 1, j => by
    have h1 := partZ_low h (gs := gs) (turnsZ_low (gs := gs) h hd r) (2 * l.length) j
    have h2 := h.few
    show _ ≤ (partZ l gs (turnsZ l gs d r) (2 * l.length)).1 j
    omega
theorem turnsZ_high (l : List Arc) (gs : List Int) (d : Nat → Int) : ∀ r j, turnsZ l gs d r j ≤ d j
  | 0, j => Int.le_refl _
  | r + 1, j => Int.le_trans (partZ_high l gs _ _ j) (turnsZ_high l gs d r j)

abbrev stcell (p : Nat × Bool) : List Value := [.int .i64 p.1, .bool p.2]
set_option maxRecDepth 100000 in
set_option maxHeartbeats 1000000 in
theorem fee_relax (B P N : Nat) (A : Option Addr) (m c : Nat) (G : Option Addr) (cg : Nat) (l : List Arc) (gs : List Int) (D cd : Nat) (d : Nat → Int) (w : World) (h : Opened w B P N A m c G cg l gs) (hok : NetOk N l) (hP : P < B) (hB : B ≤ w.heap.size)
    (hw : ∀ i, i < m → 0 ≤ gs.getD i 0 ∧ gs.getD i 0 ≤ (l.getD i arc0).m) (hd : Own w B 2 1 icell (some ⟨D, 0, none⟩) cd (rowL N d)) (X : Int) (hX : -1000000000000 ≤ X) (hdX : ∀ j, X ≤ d j) (hd0 : ∀ j, d j ≤ 1152921504606846976) (hd1 : ∀ j, j < N → d j < 1152921504606846976) :
    Calls Try.prog 31 #[.pointer (some ⟨P, 0, none⟩), .slice (some ⟨D, 0, none⟩) N cd] w fun e w' => ∃ Y cy, e = .returned (.tuple #[.slice (some ⟨Y, 0, none⟩) N cy, .bool (relaxZ (stepsS l gs (2 * l.length)) (N + 1) d)]) ∧ Below B w w' := by
  have hN := hok.small
  have hm30 := hok.few
  have hi1 : (Try.prog.info? 77).map (fun i => (i.zero, i.size, i.bytes)) = some (some (.agg #[.int .i64 0, .bool false]), 2, 16) := rfl
  obtain ⟨i1, a1, b1, c1, d1⟩ := info_parts hi1
  have hm1 : ∀ W : World, (Instr.makeSlice 71 (.int .i64 N) (.int .i64 N)).run Try.prog W = .ok (.slice (some ⟨W.heap.size, 0, none⟩) N N) (W.alloc (.cells (madeCells #[.int .i64 0, .bool false] (N * 2)) 77)) := fun W => by
    have := run_make (P := Try.prog) W 71 77 i1 (.agg #[.int .i64 0, .bool false]) (by kernel_rfl) a1 b1 .i64 .i64 N N (by omega) (Int.le_refl _) (by rw [d1]; omega) (by omega)
    rw [c1, show (Value.agg #[.int .i64 0, .bool false]).cells = #[Value.int .i64 0, .bool false] from rfl] at this
    simpa using this
  clear hi1 a1 b1 c1 d1
  have k0 := h.1.cell 0
  have k1 := h.1.cell 1
  have HO := Lib.hid h
  have HOK := Lib.hid hok
  have HW := Lib.hid hw
  have HD := Lib.hid hd
  have hPw : P < w.heap.size := by omega
  have HML := Lib.hid h.2.2.2.1
  have hm3 : m ≤ 30 := by rw [← h.2.2.2.1]; exact hm30
  have hwm : IntKind.i64.wrap (2 * (m : Int)) = ((2 * m : Nat) : Int) := by rw [IntWalk.i64_in _ (by omega)]; omega
  clear h hok hw hd
  go_enter Try.func31, Try.ntmps31
  go_wp2_with fail
  obtain ⟨Y, hY⟩ : ∃ Y, Y = w.heap.size := ⟨_, rfl⟩
  obtain ⟨W1, hW1⟩ : ∃ W1, W1 = w.alloc (.cells (madeCells #[.int .i64 0, .bool false] (N * 2)) 77) := ⟨_, rfl⟩
  have hb1 : Below B w W1 := by rw [hW1]; exact (Below.refl B w).alloc hB _
  have hy1 : Blk W1 Y 77 (madeCells #[.int .i64 0, .bool false] (N * 2)) := by rw [hW1, hY]; exact Blk.new w _ _
  have hd1' : Own W1 B 2 1 icell (some ⟨D, 0, none⟩) cd (rowL N d) := by rw [hW1]; exact HD.out.alloc _
  have hDY : D < Y := by rw [hY]; exact (HD.out.lt D rfl).2
  have hDB : B ≤ D := (HD.out.lt D rfl).1
  have hcs : (madeCells #[.int .i64 0, .bool false] (N * 2)).size = N * 2 := by simp [madeCells]
  rw [← hW1, ← hY]
  rw [← hY] at hPw hB
  have HCS := Lib.hid hcs
  have HB1 := Lib.hid hb1
  have HY1 := Lib.hid hy1
  have HD1 := Lib.hid hd1'
  have HST : Hid (relaxZ (stepsS l gs (2 * l.length)) (N + 1 - 0) (turnsZ l gs d 0) = relaxZ (stepsS l gs (2 * l.length)) (N + 1) d) := Lib.hid rfl
  obtain ⟨M, hM⟩ : ∃ M, M = l.length := ⟨_, rfl⟩
  clear hW1 hb1 hy1 hd1' hY k0 k1 HD hcs
  go_loopw [25] (fun s25 wr => ∃ (r : Nat) (cs : Array Value), r ≤ N + 1 ∧ s25 = .int .i64 r ∧ Below B w wr ∧ Blk wr Y 77 cs ∧ cs.size = N * 2 ∧ Own wr B 2 1 icell (some ⟨D, 0, none⟩) cd (rowL N (turnsZ l gs d r)) ∧ relaxZ (stepsS l gs (2 * l.length)) (N + 1 - r) (turnsZ l gs d r) = relaxZ (stepsS l gs (2 * l.length)) (N + 1) d) (fun s25 _ => N + 1 - (intOf s25).toNat)
  case atStart => exact ⟨0, _, by omega, rfl, HB1.out, HY1.out, HCS.out, HD1.out, HST.out⟩
  case round =>
    clear HB1 HY1 HD1 HST HCS
    rename World => wr
    obtain ⟨r, cs, hr, rfl, hb, hy, hcs, ho, hst⟩ := hrel
    have hop := HO.out.below hb hP
    have k1 := hop.1.cell 1
    have HB := Lib.hid hb
    have HY := Lib.hid hy
    have HCS := Lib.hid hcs
    have HOW := Lib.hid ho
    have HST := Lib.hid hst
    have HOP := Lib.hid hop
    clear hb hy hcs ho hst hop
    by_cases hlt : r < N + 1
    · obtain ⟨dr, hdr⟩ : ∃ dr, dr = turnsZ l gs d r := ⟨_, rfl⟩
      have hlow : ∀ j, -2000000000000 ≤ dr j := fun j => by
        have := turnsZ_low (gs := gs) HOK.out hdX r j
        rw [hdr]; omega
      have hhigh : ∀ j, dr j ≤ d j := fun j => by rw [hdr]; exact turnsZ_high l gs d r j
      rw [← hdr] at HOW HST
      have HDR := Lib.hid hdr
      have HLOW := Lib.hid hlow
      have HHIGH := Lib.hid hhigh
      have HOW0 : Hid (Own wr B 2 1 icell (some ⟨D, 0, none⟩) cd (rowL N (partZ l gs dr 0).1)) := HOW
      clear hlow hhigh hdr HOW
      have HLT := Lib.hid hlt
      have hltI : (r : Int) < (N : Int) + 1 := by omega
      go_wp2_with fail
      clear hlt
      go_loopw [34, 7] (fun s34 s7 w2 => ∃ (k : Nat) (cs : Array Value), k ≤ 2 * m ∧ s34 = .int .i64 k ∧ s7 = .bool (partZ l gs dr k).2 ∧ Below B w w2 ∧ Blk w2 Y 77 cs ∧ cs.size = N * 2 ∧ Own w2 B 2 1 icell (some ⟨D, 0, none⟩) cd (rowL N (partZ l gs dr k).1)) (fun s34 _ _ => 2 * m - (intOf s34).toNat)
      case atStart => exact ⟨0, cs, by omega, rfl, rfl, HB.out, HY.out, HCS.out, HOW0.out⟩
      case round =>
        clear HB HY HCS HOW0 HOP k1 cs
        rename World => w2
        obtain ⟨k, cs, hk, rfl, rfl, hb, hy, hcs, ho⟩ := hrel
        have HB := Lib.hid hb
        have HY := Lib.hid hy
        have HCS := Lib.hid hcs
        have HOW := Lib.hid ho
        by_cases hlk : k < 2 * m
        · have hq : k / 2 < m := by omega
          obtain ⟨q, hqq⟩ : ∃ q, q = k / 2 := ⟨_, rfl⟩
          obtain ⟨bk, hbk⟩ : ∃ bk, bk = isBack k := ⟨_, rfl⟩
          have e1 : (k : Int) / 2 = (q : Int) := by omega
          have e2 : ((k : Int) % 2 == 1) = bk := by
            rw [hbk]
            unfold isBack
            by_cases hk2 : k % 2 = 1
            · rw [decide_eq_true hk2]; simp; omega
            · rw [decide_eq_false hk2]; simp; omega
          have hql : q < l.length := by rw [HML.out, hqq]; exact hq
          have harc := HOK.out.arcs _ (List.getElem_mem hql)
          rw [← getD_at l q hql arc0] at harc
          have hgw := HW.out q (by rw [hqq]; exact hq)
          have hstk : stS l gs k = (decide (0 < roomS (l.getD q arc0) (gs.getD q 0) bk), ⟨(fromS (l.getD q arc0) bk).toNat, (toS (l.getD q arc0) bk).toNat, costS (l.getD q arc0) bk⟩) := by rw [hqq, hbk]; rfl
          have hop := HO.out.below hb hP
          have hz := hb.size
          obtain ⟨V, hV⟩ : ∃ V, V = w2.alloc (.cells #[.int .i64 q, .bool bk] 77) := ⟨_, rfl⟩
          obtain ⟨T, hT⟩ : ∃ T, T = w2.heap.size := ⟨_, rfl⟩
          have hbV : Below w2.heap.size w2 V := by rw [hV]; exact (Below.refl _ w2).alloc (Nat.le_refl _) _
          have htV : Blk V T 77 #[.int .i64 q, .bool bk] := by rw [hV, hT]; exact Blk.new w2 _ _
          have hzV : V.heap.size = T + 1 := by rw [hV, size_alloc', hT]
          have hBw2 : B ≤ w2.heap.size := Nat.le_trans hB (Nat.le_of_lt hy.lt)
          have hBT : B ≤ T := by rw [hT]; exact hBw2
          have hYT : Y < T := by rw [hT]; exact hy.lt
          have hDT : D < T := by rw [hT]; exact (ho.lt D rfl).2
          have hopV : Opened V B P N A m c G cg l gs := hop.below (hbV.mono (by omega)) hP
          have HROOM := Lib.hid (flow_Room B P N A m c G cg l gs q bk V hopV (by rw [hqq]; exact hq) (by omega) (by omega) (by omega) ⟨hgw.1, hgw.2, harc.2.2.2.2.2.2.1⟩)
          have hxe := HOK.out
          obtain ⟨ia, hia⟩ : ∃ ia : Nat, fromS (l.getD q arc0) bk = ia := by
            unfold fromS; split
            · exact ⟨_, (Int.toNat_of_nonneg harc.2.2.1).symm⟩
            · exact ⟨_, (Int.toNat_of_nonneg harc.1).symm⟩
          obtain ⟨ib, hib⟩ : ∃ ib : Nat, toS (l.getD q arc0) bk = ib := by
            unfold toS; split
            · exact ⟨_, (Int.toNat_of_nonneg harc.1).symm⟩
            · exact ⟨_, (Int.toNat_of_nonneg harc.2.2.1).symm⟩
          have hiaN : ia < N := by
            have : (ia : Int) < N := by rw [← hia]; unfold fromS; split <;> omega
            omega
          have hibN : ib < N := by
            have : (ib : Int) < N := by rw [← hib]; unfold toS; split <;> omega
            omega
          have hab : ia ≠ ib := fun e => by
            have e' : (ia : Int) = ib := by rw [e]
            rw [← hia, ← hib] at e'
            unfold fromS toS at e'
            split at e' <;> omega
          have hcst : -1048576 ≤ costS (l.getD q arc0) bk ∧ costS (l.getD q arc0) bk ≤ 1048576 := by unfold costS; split <;> omega
          have hae : -1048576 ≤ (l.getD q arc0).e ∧ (l.getD q arc0).e ≤ 1048576 := by omega
          have HCOST : Hid (∀ v, Below V.heap.size V v → Calls Try.prog 52 #[.pointer (some ⟨P, 0, none⟩), .agg #[.int .i64 q, .bool bk]] v fun e w' => e = .returned (.int .i64 (costS (l.getD q arc0) bk)) ∧ Below v.heap.size v w') := Lib.hid (fun v hv =>
            fee_cost B P N A m c G cg l gs q bk v (hopV.below (hv.mono (by omega)) hP) (by rw [hqq]; exact hq) hm3 (by have := hv.size; omega) (by have := hv.size; omega) hae)
          rw [hia, hib] at hstk HROOM
          simp only [Int.toNat_natCast] at hstk
          obtain ⟨rm, hrm⟩ : ∃ rm, rm = roomS (l.getD q arc0) (gs.getD q 0) bk := ⟨_, rfl⟩
          obtain ⟨cs', hcs'⟩ : ∃ cs', cs' = costS (l.getD q arc0) bk := ⟨_, rfl⟩
          rw [← hrm, ← hcs'] at hstk
          rw [← hrm] at HROOM
          rw [← hcs'] at HCOST hcst
          have hPS := partZ_succ l gs dr k
          rw [hstk] at hPS
          have hpl := partZ_low (gs := gs) HOK.out HLOW.out k
          have hph := partZ_high l gs dr k
          have hxa : -3000000000000 ≤ (partZ l gs dr k).1 ia ∧ (partZ l gs dr k).1 ia < 1152921504606846976 := by
            have h1 := hpl ia
            have h2 := hph ia
            have h3 := HHIGH.out ia
            have h4 := hd1 ia hiaN
            omega
          obtain ⟨pz, hpz⟩ : ∃ pz, pz = partZ l gs dr k := ⟨_, rfl⟩
          rw [← hpz] at hPS hxa ho ⊢
          have hoV : Own V B 2 1 icell (some ⟨D, 0, none⟩) cd (rowL N pz.1) := ho.below hbV (Nat.le_refl _)
          have hyV : Blk V Y 77 cs := hy.below hbV (by omega)
          have hbBV : Below B w V := hb.trans (hbV.mono (by omega))
          have HPS := Lib.hid hPS
          have HBV := Lib.hid hbBV
          have HOV := Lib.hid hoV
          have HYV := Lib.hid hyV
          have HTV := Lib.hid htV
          have HZV := Lib.hid hzV
          have HVV := Lib.hid hV
          have HTT := Lib.hid hT
          clear hb hy hcs ho hop hbV htV hzV hopV hxe harc hgw hql hqq hbk hstk hia hib hrm hcs' hpl hph hpz hPS hoV hyV hbBV hae HB HY HOW hV hT
          go_wp2_with fail
          rw [← HVV.out, ← HTT.out]
          refine HROOM.out.mono ?_
          clear HROOM HVV HTT
          rintro e v3 ⟨rfl, hb3⟩
          have hz3 := hb3.size
          have hzT : T < v3.heap.size := by rw [HZV.out] at hz3; omega
          have ht3 := HTV.out.below hb3 HTV.out.lt
          have hy3 := HYV.out.below hb3 (by rw [HZV.out]; omega)
          have ho3 : Own v3 B 2 1 icell (some ⟨D, 0, none⟩) cd (rowL N pz.1) := HOV.out.below hb3 (Nat.le_refl _)
          obtain ⟨g', eg, _, _, ca, _⟩ := ho3.cell1 (k := ia) (by rw [rowL_len]; exact hiaN)
          obtain rfl : D = g' := by simpa using eg
          obtain ⟨g', eg', _, _, cb, fb⟩ := ho3.cell1 (k := ib) (by rw [rowL_len]; exact hibN)
          obtain rfl : D = g' := by simpa using eg'
          have ea : (rowL N pz.1)[ia]'(by rw [rowL_len]; exact hiaN) = pz.1 ia := by unfold rowL; rw [mapR_get]
          have eb : (rowL N pz.1)[ib]'(by rw [rowL_len]; exact hibN) = pz.1 ib := by unfold rowL; rw [mapR_get]
          rw [ea] at ca
          rw [eb] at cb
          have t0 := ht3.cell 0
          have t1 := ht3.cell 1
          have HF : Hid (∀ w', Below v3.heap.size v3 w' → w'.cell? ⟨D, ia, none⟩ = some (.int .i64 (pz.1 ia)) ∧ w'.cell? ⟨D, ib, none⟩ = some (.int .i64 (pz.1 ib)) ∧ w'.cell? ⟨T, 0, none⟩ = some (.int .i64 q) ∧ w'.cell? ⟨T, 1, none⟩ = some (.bool bk)) := Lib.hid (fun w' hb =>
            ⟨(hb.cell (by show D < _; omega)).trans ca, (hb.cell (by show D < _; omega)).trans cb, (hb.cell (by show T < _; omega)).trans t0, (hb.cell (by show T < _; omega)).trans t1⟩)
          have HB3 := Lib.hid (HBV.out.trans (hb3.mono (by rw [HZV.out]; omega)))
          have HBV3 := Lib.hid hb3
          have HT3 := Lib.hid ht3
          have HY3 := Lib.hid hy3
          have HO3 := Lib.hid ho3
          obtain ⟨xa, hxa'⟩ : ∃ x, x = pz.1 ia := ⟨_, rfl⟩
          obtain ⟨xb, hxb'⟩ : ∃ x, x = pz.1 ib := ⟨_, rfl⟩
          have HXA := Lib.hid hxa'
          have HXB := Lib.hid hxb'
          rw [← hxa'] at hxa HF
          rw [← hxb'] at HF
          have hwx : IntKind.i64.wrap (xa + cs') = xa + cs' := IntWalk.i64_in _ (by omega)
          have hxaf : xa < 1152921504606846976 := hxa.2
          clear hxa' hxb' ht3 hy3 ho3 hb3 hz3 eg eg' ea eb ca cb t0 t1
          by_cases hrm : 0 < rm
          · by_cases hbt : xa + cs' < xb
            · have HE : Hid (partZ l gs dr (k + 1) = (updZ pz.1 ib (xa + cs'), true)) := Lib.hid (by
                rw [HPS.out]; unfold stepZ
                rw [if_pos (by simp only [decide_eq_true_eq, Bool.and_eq_true]; exact ⟨hrm, by rw [← HXA.out, ← HXB.out]; exact hbt⟩)]
                rw [HXA.out])
              go_wp2_with fail
              refine region_plain 99 24 (fun w' => Below v3.heap.size v3 w') (by kernel_rfl) rfl ?_
              refine anyC_reads (by kernel_rfl) [0, 1, 2, 3, 4, 5, 6, 7, 8, 9, 10, 11, 12, 13, 14, 15, 18, 19, 20, 21] ?opa ?oha 4 _ _ _ (by kernel_rfl) ?oka
              case oha => (simp only [List.filterMap_cons, List.filterMap_nil, List.getElem?_toArray, List.getElem?_cons_zero, List.getElem?_cons_succ]; try rfl)
              repeat (first
                | (refine readC_skip (by rfl) ?_
                   go_simp)
                | (refine readC_step (v := ?_) rfl (fun w' hw' => ?_) ?_
                   rotate_left
                   focus (obtain ⟨qa, qb, q0, q1⟩ := HF.out w' hw'; go_simp; try with_reducible rfl)
                   go_simp))
              refine readC_nil ?_
              refine anyC_one (i := 16) (by kernel_rfl) rfl rfl (.inr (Below.refl _ v3).drew) ?_
              go_simp
              refine (HCOST.out v3.drew (HBV3.out.drew)).mono ?_
              rintro e v4 ⟨rfl, hb4⟩
              have hb34 : Below v3.heap.size v3 v4 := ((Below.refl _ v3).drew).trans hb4
              go_simp
              refine anyC_reads (by kernel_rfl) [17, 22, 23] ?opb ?ohb 0 _ _ _ (by kernel_rfl) ?okb
              case ohb => (simp only [List.filterMap_cons, List.filterMap_nil, List.getElem?_toArray, List.getElem?_cons_zero, List.getElem?_cons_succ]; try rfl)
              repeat (first
                | (refine readC_skip (by rfl) ?_
                   go_simp)
                | (refine readC_step (v := ?_) rfl (fun w' hw' => ?_) ?_
                   rotate_left
                   focus (obtain ⟨qa, qb, q0, q1⟩ := HF.out w' hw'; go_simp; try with_reducible rfl)
                   go_simp))
              refine readC_nil ?_
              refine anyC_end (by kernel_rfl) (.inr hb34) ?_
              have HB34 := Lib.hid hb34
              clear hb34 hb4
              go_wp2_with fail
              obtain ⟨qa, _, q0, q1⟩ := HF.out v4 HB34.out
              have hz4 := HB34.out.size
              have HC4 : Hid (v4.drew.cell? ⟨D, ia, none⟩ = some (.int .i64 xa) ∧ v4.drew.cell? ⟨T, 0, none⟩ = some (.int .i64 q) ∧ v4.drew.cell? ⟨T, 1, none⟩ = some (.bool bk)) := Lib.hid ⟨qa, q0, q1⟩
              clear qa q0 q1
              refine region_plain 99 18 (fun w' => w'.cell? ⟨D, ia, none⟩ = some (.int .i64 xa) ∧ w'.cell? ⟨T, 0, none⟩ = some (.int .i64 q) ∧ w'.cell? ⟨T, 1, none⟩ = some (.bool bk)) (by kernel_rfl) rfl ?_
              refine anyC_reads (by kernel_rfl) [0, 1, 2, 3, 4, 5, 6, 7, 8, 9, 12] ?opz ?ohz 7 _ _ _ (by kernel_rfl) ?okz
              case ohz => (simp only [List.filterMap_cons, List.filterMap_nil, List.getElem?_toArray, List.getElem?_cons_zero, List.getElem?_cons_succ]; try rfl)
              repeat (
                refine readC_step (v := ?_) rfl (fun w' hw' => ?_) ?_
                rotate_left
                focus (obtain ⟨qa, q0, q1⟩ := hw'; go_simp; try with_reducible rfl)
                go_simp)
              refine readC_nil ?_
              refine anyC_one (i := 10) (by kernel_rfl) rfl rfl (.inr HC4.out) ?_
              go_simp
              refine (HCOST.out v4.drew (HBV3.out.trans (HB34.out.mono (by have := HBV3.out.size; omega))).drew).mono ?_
              rintro e v5 ⟨rfl, hb5⟩
              have hb45 : Below v4.heap.size v4 v5 := ((Below.refl _ v4).drew).trans hb5
              have hz5 := hb45.size
              have hC5 : v5.cell? ⟨D, ia, none⟩ = some (.int .i64 xa) ∧ v5.cell? ⟨T, 0, none⟩ = some (.int .i64 q) ∧ v5.cell? ⟨T, 1, none⟩ = some (.bool bk) :=
                ⟨(hb5.cell (show D < v4.heap.size by omega)).trans HC4.out.1, (hb5.cell (show T < v4.heap.size by omega)).trans HC4.out.2.1, (hb5.cell (show T < v4.heap.size by omega)).trans HC4.out.2.2⟩
              have ho5 : Own v5 B 2 1 icell (some ⟨D, 0, none⟩) cd (rowL N pz.1) := (HO3.out.below HB34.out (Nat.le_refl _)).below hb45 (Nat.le_refl _)
              have hy5 : Blk v5 Y 77 cs := (HY3.out.below HB34.out (by omega)).below hb45 (by omega)
              obtain ⟨g', eg, _, _, cb, fb⟩ := ho5.cell1 (k := ib) (by rw [rowL_len]; exact hibN)
              obtain rfl : D = g' := by simpa using eg
              have hp5 := ho5.put1 (f := fun x => .int .i64 x) (k := ib) (x := xa + cs') (by rw [rowL_len]; exact hibN)
              have hru : (rowL N pz.1).set ib (xa + cs') = rowL N (updZ pz.1 ib (xa + cs')) := by
                unfold rowL
                rw [mapR_set]
                exact mapR_congr fun z _ => rfl
              rw [hru] at hp5
              have hyp : Blk (v5.setCell ⟨D, ib, none⟩ (.int .i64 (xa + cs'))) Y 77 cs := hy5.far (p := ⟨D, ib, none⟩) (show Y ≠ D by omega) _
              have HC5 := Lib.hid hC5
              have HC6 : Hid ((v5.setCell ⟨D, ib, none⟩ (.int .i64 (xa + cs'))).cell? ⟨D, ia, none⟩ = some (.int .i64 xa) ∧ (v5.setCell ⟨D, ib, none⟩ (.int .i64 (xa + cs'))).cell? ⟨T, 0, none⟩ = some (.int .i64 q) ∧ (v5.setCell ⟨D, ib, none⟩ (.int .i64 (xa + cs'))).cell? ⟨T, 1, none⟩ = some (.bool bk)) := Lib.hid (by
                obtain ⟨h1, h2, h3⟩ := hC5
                go_simp
                done)
              have y0 := hyp.cell (ib * 2)
              have y1 := hyp.cell (ib * 2 + 1)
              have fy := hyp.frozen (ib * 2)
              have fy1 := hyp.frozen (ib * 2 + 1)
              have hcs := HCS.out
              obtain ⟨u0, hu0⟩ : ∃ u, cs[ib * 2]? = some u := ⟨_, Array.getElem?_eq_getElem (by omega)⟩
              obtain ⟨u1, hu1⟩ : ∃ u, cs[ib * 2 + 1]? = some u := ⟨_, Array.getElem?_eq_getElem (by omega)⟩
              rw [hu0] at y0
              rw [hu1] at y1
              obtain ⟨v6, hv6⟩ : ∃ v6, v6 = v5.setCell ⟨D, ib, none⟩ (.int .i64 (xa + cs')) := ⟨_, rfl⟩
              rw [← hv6] at y0 y1 fy fy1 hyp hp5 HC6
              have hb56 : Below B v5 v6 := by rw [hv6]; exact (Below.refl B v5).setCell (p := ⟨D, ib, none⟩) hDB _
              have HV6 := Lib.hid hv6
              have HYP := Lib.hid hyp
              have HP6 := Lib.hid hp5
              have HB6 : Hid (Below B w v6) := Lib.hid ((HB3.out.trans ((HB34.out.trans (hb45.mono (by omega))).mono (by omega))).trans hb56)
              clear hC5 ho5 hy5 hb5 hb45 eg hru hyp hp5 hv6 hb56 hcs hu0 hu1
              go_simp
              refine anyC_reads (by kernel_rfl) [11, 13] ?opt ?oht 4 _ _ _ (by kernel_rfl) ?okt
              case oht => (simp only [List.filterMap_cons, List.filterMap_nil, List.getElem?_toArray, List.getElem?_cons_zero, List.getElem?_cons_succ]; try rfl)
              repeat (
                refine readC_step (v := ?_) rfl (fun w' hw' => ?_) ?_
                rotate_left
                focus (obtain ⟨qa, q0, q1⟩ := hw'; go_simp; try with_reducible rfl)
                go_simp)
              refine readC_nil ?_
              refine anyC_one (i := 14) (by kernel_rfl) rfl rfl (.inr HC5.out) ?_
              go_simp
              rw [← HV6.out]
              refine anyC_reads (by kernel_rfl) [15] ?opu ?ohu 2 _ _ _ (by kernel_rfl) ?oku
              case ohu => (simp only [List.filterMap_cons, List.filterMap_nil, List.getElem?_toArray, List.getElem?_cons_zero, List.getElem?_cons_succ]; try rfl)
              repeat (
                refine readC_step (v := ?_) rfl (fun w' hw' => ?_) ?_
                rotate_left
                focus (obtain ⟨qa, q0, q1⟩ := hw'; go_simp; try with_reducible rfl)
                go_simp)
              refine readC_nil ?_
              refine anyC_one (i := 16) (by kernel_rfl) rfl rfl (.inr HC6.out) ?_
              go_simp
              obtain ⟨v7, hv7⟩ : ∃ v7, v7 = (v6.setCell ⟨Y, ib * 2, none⟩ (.int .i64 q)).setCell ⟨Y, ib * 2 + 1, none⟩ (.bool bk) := ⟨_, rfl⟩
              have hB67 : Below B v6 v7 := by rw [hv7]; exact ((Below.refl B v6).setCell (p := ⟨Y, ib * 2, none⟩) hB _).setCell (p := ⟨Y, ib * 2 + 1, none⟩) hB _
              have hC7 : v7.cell? ⟨D, ia, none⟩ = some (.int .i64 xa) ∧ v7.cell? ⟨T, 0, none⟩ = some (.int .i64 q) ∧ v7.cell? ⟨T, 1, none⟩ = some (.bool bk) := by
                obtain ⟨h1, h2, h3⟩ := HC6.out
                have hne1 : D ≠ Y := by omega
                have hne2 : T ≠ Y := by omega
                rw [hv7]
                go_simp
              have hy7 : Blk v7 Y 77 ((cs.setIfInBounds (ib * 2) (.int .i64 q)).setIfInBounds (ib * 2 + 1) (.bool bk)) := by rw [hv7]; exact (HYP.out.put _ _).put _ _
              have ho7 : Own v7 B 2 1 icell (some ⟨D, 0, none⟩) cd (rowL N (updZ pz.1 ib (xa + cs'))) := by rw [hv7]; exact (HP6.out.far (p := ⟨Y, ib * 2, none⟩) (by simp [blkOf]; omega) _).far (p := ⟨Y, ib * 2 + 1, none⟩) (by simp [blkOf]; omega) _
              have HC7 := Lib.hid hC7
              have HY7 := Lib.hid hy7
              have HO7 := Lib.hid ho7
              have HB7 := Lib.hid (HB6.out.trans hB67)
              rw [← hv7]
              clear hB67 hC7 hy7 ho7 hv7
              refine anyC_reads (by kernel_rfl) [17] ?opv ?ohv 0 _ _ _ (by kernel_rfl) ?okv
              case ohv => (simp only [List.filterMap_cons, List.filterMap_nil, List.getElem?_toArray, List.getElem?_cons_zero, List.getElem?_cons_succ]; try rfl)
              repeat (
                refine readC_step (v := ?_) rfl (fun w' hw' => ?_) ?_
                rotate_left
                focus (obtain ⟨qa, q0, q1⟩ := hw'; go_simp; try with_reducible rfl)
                go_simp)
              refine readC_nil ?_
              refine anyC_end (by kernel_rfl) (.inr HC7.out) ?_
              go_wp2_with fail
              go_roundw
              case rel => exact ⟨k + 1, _, by omega, by go_num, by rw [HE.out], HB7.out, HY7.out, by rw [Array.size_setIfInBounds, Array.size_setIfInBounds]; exact HCS.out, by rw [HE.out]; exact HO7.out⟩
              case measure => simp [intOf]; omega
            · have HE : Hid (partZ l gs dr (k + 1) = pz) := Lib.hid (by
                rw [HPS.out]; unfold stepZ
                rw [if_neg (by simp only [decide_eq_true_eq, Bool.and_eq_true]; rintro ⟨_, h2⟩; rw [← HXA.out, ← HXB.out] at h2; exact hbt h2)])
              go_wp2_with fail
              refine region_plain 99 24 (fun w' => Below v3.heap.size v3 w') (by kernel_rfl) rfl ?_
              refine anyC_reads (by kernel_rfl) [0, 1, 2, 3, 4, 5, 6, 7, 8, 9, 10, 11, 12, 13, 14, 15, 18, 19, 20, 21] ?opc ?ohc 4 _ _ _ (by kernel_rfl) ?okc
              case ohc => (simp only [List.filterMap_cons, List.filterMap_nil, List.getElem?_toArray, List.getElem?_cons_zero, List.getElem?_cons_succ]; try rfl)
              repeat (first
                | (refine readC_skip (by rfl) ?_
                   go_simp)
                | (refine readC_step (v := ?_) rfl (fun w' hw' => ?_) ?_
                   rotate_left
                   focus (obtain ⟨qa, qb, q0, q1⟩ := HF.out w' hw'; go_simp; try with_reducible rfl)
                   go_simp))
              refine readC_nil ?_
              refine anyC_one (i := 16) (by kernel_rfl) rfl rfl (.inr (Below.refl _ v3).drew) ?_
              go_simp
              refine (HCOST.out v3.drew (HBV3.out.drew)).mono ?_
              rintro e v4 ⟨rfl, hb4⟩
              have hb34 : Below v3.heap.size v3 v4 := ((Below.refl _ v3).drew).trans hb4
              go_simp
              refine anyC_reads (by kernel_rfl) [17, 22, 23] ?opd ?ohd 0 _ _ _ (by kernel_rfl) ?okd
              case ohd => (simp only [List.filterMap_cons, List.filterMap_nil, List.getElem?_toArray, List.getElem?_cons_zero, List.getElem?_cons_succ]; try rfl)
              repeat (first
                | (refine readC_skip (by rfl) ?_
                   go_simp)
                | (refine readC_step (v := ?_) rfl (fun w' hw' => ?_) ?_
                   rotate_left
                   focus (obtain ⟨qa, qb, q0, q1⟩ := HF.out w' hw'; go_simp; try with_reducible rfl)
                   go_simp))
              refine readC_nil ?_
              refine anyC_end (by kernel_rfl) (.inr hb34) ?_
              have HB34 := Lib.hid hb34
              clear hb34 hb4
              go_wp2_with fail
              go_roundw
              case rel => exact ⟨k + 1, cs, by omega, by go_num, by rw [HE.out], HB3.out.trans (HB34.out.mono (by omega)), HY3.out.below HB34.out (by omega), HCS.out, by rw [HE.out]; exact HO3.out.below HB34.out (Nat.le_refl _)⟩
              case measure => simp [intOf]; omega
          · have HE : Hid (partZ l gs dr (k + 1) = pz) := Lib.hid (by
              rw [HPS.out]; unfold stepZ
              rw [decide_eq_false hrm]
              rfl)
            have hdr : decide (0 < rm) = false := decide_eq_false hrm
            go_wp2_with fail
            refine region_plain 99 24 (fun w' => Below v3.heap.size v3 w') (by kernel_rfl) rfl ?_
            refine anyC_reads (by kernel_rfl) [0, 1, 2, 3, 4, 5, 6, 7, 8, 9, 10, 11, 12, 13, 14, 15, 16, 17, 18, 19, 20, 21, 22, 23] ?ope ?ohe 0 _ _ _ (by kernel_rfl) ?oke
            case ohe => (simp only [List.filterMap_cons, List.filterMap_nil, List.getElem?_toArray, List.getElem?_cons_zero, List.getElem?_cons_succ]; try rfl)
            repeat (first
              | (refine readC_skip (by rfl) ?_
                 go_simp)
              | (refine readC_step (v := ?_) rfl (fun w' hw' => ?_) ?_
                 rotate_left
                 focus (obtain ⟨qa, qb, q0, q1⟩ := HF.out w' hw'; go_simp; try with_reducible rfl)
                 go_simp))
            refine readC_nil ?_
            refine anyC_end (by kernel_rfl) (.inr (Below.refl _ v3).drew) ?_
            go_wp2_with fail
            go_roundw
            case rel => exact ⟨k + 1, cs, by omega, by go_num, by rw [HE.out], HB3.out.drew, HY3.out.drew, HCS.out, by rw [HE.out]; exact HO3.out.drew⟩
            case measure => simp [intOf]; omega
        · obtain rfl : k = 2 * m := by omega
          have hpz : partZ l gs dr (2 * m) = passZ (stepsS l gs (2 * l.length)) dr := by rw [HML.out]; rfl
          have hrst : relaxZ (stepsS l gs (2 * l.length)) (N + 1 - r) dr = if (partZ l gs dr (2 * m)).2 then relaxZ (stepsS l gs (2 * l.length)) (N + 1 - (r + 1)) (partZ l gs dr (2 * m)).1 else false := by
            rw [hpz, show N + 1 - r = (N + 1 - (r + 1)) + 1 by omega]; rfl
          have htz : turnsZ l gs d (r + 1) = (partZ l gs dr (2 * m)).1 := by rw [HDR.out, ← HML.out]; rfl
          have HRST := Lib.hid hrst
          have HTZ := Lib.hid htz
          have hlt := HLT.out
          clear hb hy hcs ho hpz hrst htz
          obtain ⟨pz, hpz⟩ : ∃ pz, pz = partZ l gs dr (2 * m) := ⟨_, rfl⟩
          rw [← hpz] at HRST HTZ HOW ⊢
          obtain ⟨p1, p2⟩ := pz
          have HPZ := Lib.hid hpz
          clear hpz
          cases p2 with
          | true =>
            clear hlt
            go_wp2_with fail
            go_roundw
            case rel =>
              have hlt := HLT.out
              exact ⟨r + 1, cs, by omega, by go_num, HB.out, HY.out, HCS.out, by rw [HTZ.out]; exact HOW.out, by rw [HTZ.out, ← HST.out, HRST.out]; rfl⟩
            case measure => have hlt := HLT.out; simp [intOf]; omega
          | false =>
            clear hlt
            go_wp2_with fail
            refine bodyPost_ret (v := .tuple #[.slice (some ⟨Y, 0, none⟩) N N, .bool false]) (by simp [results, Try.results31, go_sem]) rfl ?_
            first
              | exact ⟨Y, N, by rw [← HST.out, HRST.out]; rfl, HB.out⟩
              | exact ⟨⟨Y, N, by rw [← HST.out, HRST.out]; rfl⟩, HB.out⟩
    · obtain rfl : r = N + 1 := by omega
      go_wp2_with fail
      refine bodyPost_ret (v := .tuple #[.slice (some ⟨Y, 0, none⟩) N N, .bool true]) (by simp [results, Try.results31, go_sem]) rfl ?_
      exact ⟨Y, N, by rw [← HST.out, Nat.sub_self]; rfl, HB.out⟩
end Go.Proofs.Ytjkfogkpacmdlaa
