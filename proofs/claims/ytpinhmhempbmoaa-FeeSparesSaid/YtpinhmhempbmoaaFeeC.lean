/- Can it be had cheaper: what the program computes. Conditions: the arcs and what goes read as lists. -/
import Derived.Test.YtpinhmhempbmoaaFeeB
import Derived.Test.YtpinhmhempbmoaaCopyAll
namespace Go.Proofs.Ytpinhmhempbmoaa
open Go.RowKit

def outS (l : List Arc) (gs : List Int) (k : Nat) : Bool := decide (gs.getD k 0 < 0) || decide ((l.getD k arc0).m < gs.getD k 0)
def spareCheck (N : Int) (l : List Arc) (gs : List Int) : Int := if netCheck N l ≠ 0 then netCheck N l else if gs.length ≠ l.length then 3 else if (List.range gs.length).any (outS l gs) = true then 4 else 0
def spareB (N : Int) (l : List Arc) (gs : List Int) : Bool := if spareCheck N l gs = 0 then relaxZ (stepsS l gs (2 * l.length)) (N.toNat + 1) (fun _ => 0) else false
theorem spareB_no {N : Int} {l : List Arc} {gs : List Int} {x : Int} (h : spareCheck N l gs = x) (hx : x ≠ 0) : spareB N l gs = false := by unfold spareB; rw [if_neg (by rw [h]; exact hx)]
theorem replicate_row (N : Nat) : List.replicate N (0 : Int) = rowL N (fun _ => 0) := by
  unfold rowL
  rw [List.map_const', List.length_range]

set_option maxRecDepth 100000 in
set_option maxHeartbeats 2000000 in
theorem fee_Spare (N : Int) (A : Option Addr) (n c : Nat) (l : List Arc) (GA : Option Addr) (k cg : Nat) (gs : List Int) (w : World) (hl : l.length = n) (hn : n ≤ maxLen) (hg : gs.length = k) (hk : k ≤ maxLen)
    (hr : Els w w.heap.size 4 Arc.cells A l) (hrg : Els w w.heap.size 1 icell GA gs) :
    Calls Try.prog 25 #[.agg #[.int .i64 N, .slice A n c], .slice GA k cg] w fun e w' => e = .returned (.tuple #[.bool (spareB N l gs), .int .i64 (spareCheck N l gs)]) ∧ Below w.heap.size w w' := by
  have hb0 := (Below.refl w.heap.size w).alloc (Nat.le_refl _) (.cells #[.int .i64 N, .slice A n c] 48)
  have hB0 := Blk.new w 48 #[.int .i64 N, .slice A n c]
  have HW := Lib.hid (flow_Check N A n c l (w.alloc (.cells #[.int .i64 N, .slice A n c] 48)) hl hn ((hr.alloc (Nat.le_refl _) _).more (by rw [size_alloc']; omega)))
  have HL := Lib.hid hl
  have HG := Lib.hid hg
  have HR := Lib.hid hr
  have HRG := Lib.hid hrg
  have HB0 := Lib.hid hb0
  have HK0 := Lib.hid hB0
  have c0 := hB0.cell 0
  have c1 := hB0.cell 1
  unfold maxLen at hk hn
  clear hr hrg hb0 hB0 hl hg
  go_enter Try.func25, Try.ntmps25
  go_wp2_with fail
  refine HW.out.mono ?_
  clear HW
  rintro e v1 ⟨rfl, hb1⟩
  have hk1 := HK0.out.below hb1 (by rw [size_alloc']; omega)
  have hb1' := HB0.out.trans (hb1.mono (by rw [size_alloc']; omega))
  have hz1 := hb1'.size
  have hlt1 := hk1.lt
  have HB1 := Lib.hid hb1'
  have HK1 := Lib.hid hk1
  clear c0 c1 hb1 hb1'
  have c0 := hk1.cell 0
  have c1 := hk1.cell 1
  clear hk1
  by_cases h0 : netCheck N l = 0
  · obtain ⟨M, rfl, hok⟩ := net_ok h0
    have HZ := Lib.hid h0
    have HOK := Lib.hid hok
    have hN := hok.small
    have hn30 := hok.few
    rw [HL.out] at hn30
    rw [h0]
    clear h0 hok
    by_cases hkn : k = n
    · subst hkn
      have HSC : Hid (spareCheck M l gs = if (List.range k).any (outS l gs) = true then 4 else 0) := Lib.hid (by
        unfold spareCheck
        rw [if_neg (by rw [HZ.out]; simp), if_neg (by rw [HL.out, HG.out]; simp), HG.out])
      go_wp2_with fail
      clear c0 c1
      go_loopw [25] (fun s25 wr => ∃ q : Nat, q ≤ k ∧ s25 = .int .i64 q ∧ v1 = wr ∧ (List.range q).any (outS l gs) = false) (fun s25 _ => k - (intOf s25).toNat)
      case atStart => exact ⟨0, by omega, rfl, rfl, rfl⟩
      case round =>
        rename World => wr
        obtain ⟨q, hq, rfl, rfl, hno⟩ := hrel
        have c1 := HK1.out.cell 1
        by_cases hlt : q < k
        · have hqL : q < l.length := by rw [HL.out]; exact hlt
          have hqg : q < gs.length := by rw [HG.out]; exact hlt
          obtain ⟨ba, oa, rfl, hba, a0, a1, a2, a3⟩ := (HR.out.below HB1.out).at4 (k := q) hqL
          obtain ⟨bg, og, rfl, hbg, g0⟩ := (HRG.out.below HB1.out).at1 (k := q) hqg
          rw [← getD_at l q hqL arc0] at a0 a1 a2 a3
          rw [← getD_at gs q hqg 0] at g0
          have hout : outS l gs q = (decide (gs.getD q 0 < 0) || decide ((l.getD q arc0).m < gs.getD q 0)) := rfl
          obtain ⟨am, ham⟩ : ∃ am, am = (l.getD q arc0).m := ⟨_, rfl⟩
          obtain ⟨g, hgg⟩ : ∃ g, g = gs.getD q 0 := ⟨_, rfl⟩
          rw [← ham] at a2 hout
          rw [← hgg] at g0 hout
          have HOUT := Lib.hid hout
          have HNO := Lib.hid hno
          clear ham hgg hout hno hqL hqg
          by_cases h1 : g < 0
          · have HE : Hid (spareCheck M l gs = 4) := Lib.hid (by rw [HSC.out, if_pos (any_range_of hlt (by rw [HOUT.out, decide_eq_true h1]; rfl))])
            go_wp2_with fail
            refine bodyPost_ret (v := .tuple #[.bool false, .int .i64 4]) (by simp [results, Try.results25, go_sem]) rfl ?_
            exact ⟨by rw [spareB_no HE.out (by decide), HE.out], HB1.out⟩
          · by_cases h2 : am < g
            · have HE : Hid (spareCheck M l gs = 4) := Lib.hid (by rw [HSC.out, if_pos (any_range_of hlt (by rw [HOUT.out, decide_eq_true h2]; simp))])
              go_wp2_with fail
              refine bodyPost_ret (v := .tuple #[.bool false, .int .i64 4]) (by simp [results, Try.results25, go_sem]) rfl ?_
              exact ⟨by rw [spareB_no HE.out (by decide), HE.out], HB1.out⟩
            · have HE : Hid (outS l gs q = false) := Lib.hid (by rw [HOUT.out, decide_eq_false h1, decide_eq_false h2]; rfl)
              go_wp2_with fail
              go_roundw
              case rel => exact ⟨q + 1, by omega, by go_num, trivial, by rw [any_range_succ, HNO.out, HE.out]; rfl⟩
              case measure => simp [intOf]; omega
        · obtain rfl : q = k := by omega
          have HE : Hid (spareCheck M l gs = 0) := Lib.hid (by rw [HSC.out, if_neg (by rw [hno]; simp)])
          have HGB : Hid (∀ i, i < q → 0 ≤ gs.getD i 0 ∧ gs.getD i 0 ≤ (l.getD i arc0).m) := Lib.hid (fun i hi => by
            have := List.any_eq_false.1 hno i (List.mem_range.2 hi)
            unfold outS at this
            simp only [Bool.or_eq_true, decide_eq_true_eq] at this
            omega)
          have HOP := Lib.hid (flow_Open M A q c v1 (by omega))
          have c0 := HK1.out.cell 0
          clear hno
          go_wp2_with fail
          refine HOP.out.mono ?_
          clear HOP
          rintro e v2 ⟨P, g, rfl, hb2, hP, hgS, hgP, hkP, hown, hkg⟩
          have hk2 := HK1.out.below hb2 hlt1
          have hb2' := HB1.out.trans (hb2.mono hz1)
          have HB2 := Lib.hid hb2'
          have HK2 := Lib.hid hk2
          have HKP := Lib.hid hkP
          have HKG := Lib.hid hkg
          have p0 := hkP.cell 0
          have p1 := hkP.cell 1
          have p2 := hkP.cell 2
          have hPlt := hkP.lt
          have hglt := hkg.lt
          have hSP : w.heap.size ≤ P := by omega
          have hSg : w.heap.size ≤ g := by omega
          have hKl := hk2.lt
          clear c0 c1 hb2 hb2' hkP hown hkg hk2
          have HRG2 := Lib.hid (HRG.out.below HB2.out)
          obtain ⟨v3, hrun, hg3, hb3, hk3⟩ := run_copy_all (P := Try.prog) (f := fun x : Int => Value.int .i64 x) v2 23 23 3 2 g q q GA cg w.heap.size (madeCells #[.int .i64 0] q) gs (by kernel_rfl) (by kernel_rfl) HKG.out (by simp [madeCells]) HRG2.out HG.out (fun _ => rfl)
          have hb3' : Below w.heap.size w v3 := HB2.out.trans (hb3.mono hSg)
          have hP3 : Blk v3 P 92 #[.int .i64 M, .slice A q c, .slice (some ⟨g, 0, none⟩) q q] := (hk3 P (Ne.symm hgP)).trans HKP.out
          have hn3 : Blk v3 w.heap.size 48 #[.int .i64 M, .slice A q c] := (hk3 w.heap.size (by omega)).trans HK2.out
          have hop3 : Opened v3 v3.heap.size P M A q c (some ⟨g, 0, none⟩) q l gs :=
            ⟨hP3, (HR.out.below hb3').more hb3'.size, els_of_blk hg3 1 icell (fun _ => rfl) gs (by rw [flat1]), HL.out, HG.out⟩
          have hP3lt := hP3.lt
          have hn3lt := hn3.lt
          have c0 := hn3.cell 0
          have HB3 := Lib.hid hb3'
          have HOP3 := Lib.hid hop3
          have hz3 := hb3'.size
          clear hb3 hb3' hk3 hg3 hP3 hn3 hop3
          have hi1 : (Try.prog.info? 2).map (fun i => (i.zero, i.size, i.bytes)) = some (some (.int .i64 0), 1, 8) := rfl
          obtain ⟨i1, a1, b1, c1', d1⟩ := info_parts hi1
          have hm1 : ∀ W : World, (Instr.makeSlice 23 (.int .i64 M) (.int .i64 M)).run Try.prog W = .ok (.slice (some ⟨W.heap.size, 0, none⟩) M M) (W.alloc (.cells (madeCells #[.int .i64 0] M) 2)) := fun W => by
            have := run_make (P := Try.prog) W 23 2 i1 (.int .i64 0) (by kernel_rfl) a1 b1 .i64 .i64 M M (by omega) (Int.le_refl _) (by rw [d1]; omega) (by omega)
            rw [c1', Nat.mul_one, show (Value.int .i64 0).cells = #[Value.int .i64 0] from rfl] at this
            simpa using this
          clear hi1 a1 b1 c1' d1
          have hbm := (Below.refl v3.heap.size v3).alloc (Nat.le_refl _) (.cells (madeCells #[.int .i64 0] M) 2)
          have hom : Own (v3.alloc (.cells (madeCells #[.int .i64 0] M) 2)) v3.heap.size 2 1 icell (some ⟨v3.heap.size, 0, none⟩) M (rowL M (fun _ => 0)) := by
            rw [← replicate_row]
            exact Own.block1 (f := fun x => .int .i64 x) (x0 := 0) (Blk.new v3 _ _) (by unfold maxLen; omega) (Nat.le_refl _)
          have HRX := Lib.hid (fee_relax v3.heap.size P M A q c (some ⟨g, 0, none⟩) q l gs v3.heap.size M (fun _ => 0) _ (HOP3.out.below hbm hP3lt) HOK.out hP3lt (by rw [size_alloc']; omega) HGB.out hom 0 (by omega) (fun _ => Int.le_refl _) (fun _ => by omega) (fun _ _ => by omega))
          have HBM : Hid (Below w.heap.size w (v3.alloc (.cells (madeCells #[.int .i64 0] M) 2))) := Lib.hid (HB3.out.trans (hbm.mono hz3))
          have HSB : Hid (spareB M l gs = relaxZ (stepsS l gs (2 * l.length)) (M + 1) (fun _ => 0)) := Lib.hid (by unfold spareB; rw [if_pos HE.out]; rfl)
          clear hbm hom
          go_wp2_with fail
          refine HRX.out.mono ?_
          clear HRX
          rintro e v4 ⟨Y, cy, rfl, hb4⟩
          have HB4 : Hid (Below w.heap.size w v4) := Lib.hid (HBM.out.trans (hb4.mono hz3))
          rw [← HSB.out]
          clear hb4
          go_wp2_with fail
          refine bodyPost_ret (v := .tuple #[.bool (spareB M l gs), .int .i64 0]) (by simp [results, Try.results25, go_sem]) rfl ?_
          exact ⟨by rw [HE.out], HB4.out⟩
    · have HE : Hid (spareCheck M l gs = 3) := Lib.hid (by
        unfold spareCheck
        rw [if_neg (by rw [HZ.out]; simp), if_pos (by rw [HL.out, HG.out]; exact hkn)])
      go_wp2_with fail
      refine bodyPost_ret (v := .tuple #[.bool false, .int .i64 3]) (by simp [results, Try.results25, go_sem]) rfl ?_
      exact ⟨by rw [spareB_no HE.out (by decide), HE.out], HB1.out⟩
  · have hcf : (netCheck N l != 0) = true := by simpa using h0
    have HE : Hid (spareCheck N l gs = netCheck N l) := Lib.hid (by unfold spareCheck; rw [if_pos h0])
    have HC := Lib.hid h0
    obtain ⟨x, hx⟩ : ∃ x, x = netCheck N l := ⟨_, rfl⟩
    rw [← hx] at hcf HE HC ⊢
    clear h0 hx
    go_wp2_with fail
    refine bodyPost_ret (v := .tuple #[.bool false, .int .i64 x]) (by simp [results, Try.results25, go_sem]) rfl ?_
    exact ⟨by rw [spareB_no HE.out HC.out, HE.out], HB1.out⟩
end Go.Proofs.Ytpinhmhempbmoaa
