/- When jobs may begin, turn by turn: the reference's walk. Conditions: the jobs have an order. -/
import Derived.Test.YtpinhmhempbmoaaTimesA
import Derived.Test.YtpinhmhempbmoaaOwnIn
import Derived.Test.YtpinhmhempbmoaaRegC
import Derived.BigQuiet
namespace Go.Proofs.Ytpinhmhempbmoaa
open Go.RowKit

/-- Numbers that lie between 0 and others. -/
def InE (E X : Nat → Int) : Prop := ∀ j, 0 ≤ X j ∧ X j ≤ E j
theorem relE_in {p : Plan} {E X : Nat → Int} (hE : EarlyOk p E) (h : InE E X) {i d : Nat} (hd : d ∈ p.A i) : InE E (relE p i X d) := by
  intro j
  unfold relE
  by_cases hj : j = i
  · rw [hj, upd_same]
    have h1 := h i
    have h2 := h d
    have h3 := hE.le i d hd
    omega
  · rw [upd_ne _ _ hj]; exact h j
theorem relE_more {p : Plan} {X : Nat → Int} {i d : Nat} (h : X i < X d + p.tm d) : relE p i X d = upd X i (X d + p.tm d) := by
  unfold relE
  rw [Int.max_eq_right (by omega)]
theorem relE_same {p : Plan} {X : Nat → Int} {i d : Nat} (h : ¬ X i < X d + p.tm d) : relE p i X d = X := by
  unfold relE
  rw [Int.max_eq_left (by omega)]
  funext j
  unfold upd
  split
  · rename_i e; rw [e]
  · rfl
theorem rowU_own {w : World} {B cap g N : Nat} {X : Nat → Int} (h : Own w B 2 1 icell (some ⟨g, 0, none⟩) cap (rowU N X)) {k : Nat} (hk : k < N) : w.cell? ⟨g, k, none⟩ = some (.int .i64 (X k)) ∧ w.frozen? ⟨g, k, none⟩ = false := by
  obtain ⟨g', e, _, _, h1, h2⟩ := h.cell1 (f := fun x => .int .i64 x) (k := k) (by rw [rowU_len]; exact hk)
  obtain rfl : g = g' := by simpa using e
  rw [rowU_at] at h1
  exact ⟨h1, h2⟩

set_option maxRecDepth 100000 in
set_option maxHeartbeats 2000000 in
theorem ref_Early (n : Nat) (A : Option Addr) (c : Nat) (l : List Jb) (hl : l.length = n) (hg : GoodJs l) (ho : HasOrder l) (E : Nat → Int) (hE : EarlyOk (planOf l) E) (w : World) (hr : Els w w.heap.size 4 Jb.cells A l) (ha : Afters w w.heap.size l) :
    Calls Try.prog 41 #[.slice A n c] w fun e w' => ∃ g, e = .returned (.slice (some ⟨g, 0, none⟩) n n) ∧ Below w.heap.size w w' ∧ Own w' w.heap.size 2 1 icell (some ⟨g, 0, none⟩) n (rowU n (earlyR (planOf l) n)) := by
  have hp := plan_ok hg ho
  have hn10 := hg.n10
  rw [hl] at hn10
  have HBD : Hid (∀ i, i < n → E i ≤ 10485760) := Lib.hid (fun i hi => by
    have h1 := early_bound hp hE i (show i < (planOf l).n by show i < l.length; omega)
    have h2 : ((planOf l).n : Int) ≤ 10 := by show (l.length : Int) ≤ 10; omega
    omega)
  have HE := Lib.hid hE
  have HR := Lib.hid hr
  have HA := Lib.hid ha
  have HL := Lib.hid hl
  have HG := Lib.hid hg
  have HPN : Hid ((planOf l).n = n) := Lib.hid (by show l.length = n; exact hl)
  have HTM : Hid (∀ i, 0 ≤ (jAt l i).t ∧ (jAt l i).t ≤ 1048576) := Lib.hid hp.tm
  have HPA : Hid (∀ i k, k ∈ lsN l i → k < n) := Lib.hid (fun i k h => by rw [← hl]; exact hp.A i k h)
  have H0 : Hid (InE E (earlyR (planOf l) 0)) := Lib.hid (fun j => ⟨Int.le_refl _, hE.pos j⟩)
  clear hr ha hl hg ho hE hp
  go_enter Try.func41, Try.ntmps41
  go_wp2_with (at_make; go_loud (refine wpList_make1 rfl _ _ _ rfl w.heap.size 2 8 (fun x => .int .i64 x) 0 Try.underlying23 (by kernel_rfl) rfl w .i64 .i64 n rfl rfl (by omega) (by unfold maxLen; omega) (Nat.le_refl _) ?_; intro v1 hown1 hgrow1))
  obtain ⟨g, hgg⟩ : ∃ g, g = w.heap.size := ⟨_, rfl⟩
  have HB1 : Hid (Below w.heap.size w v1) := Lib.hid ((Below.refl _ _).grown hgrow1 (Nat.le_refl _) (fun g hg => by cases hg))
  have HO1 : Hid (Own v1 w.heap.size 2 1 icell (some ⟨g, 0, none⟩) n (rowU n (earlyR (planOf l) 0))) := Lib.hid (by
    rw [rowU_rep] at hown1
    rw [hgg]; exact hown1)
  rw [← hgg]
  have HGG := Lib.hid hgg
  clear hown1 hgrow1 hgg
  go_wp2_with fail
  go_loopw [4] (fun s4 wr => ∃ (k : Nat) (X : Nat → Int), k ≤ n ∧ s4 = .int .i64 k ∧ X = earlyR (planOf l) k ∧ InE E X ∧ Below w.heap.size w wr ∧ Own wr w.heap.size 2 1 icell (some ⟨g, 0, none⟩) n (rowU n X)) (fun s4 _ => n - (intOf s4).toNat)
  case atStart => exact ⟨0, _, by omega, rfl, rfl, H0.out, HB1.out, HO1.out⟩
  case round =>
    clear HB1 HO1 H0
    rename World => w1
    obtain ⟨k, X0, hk, rfl, hX0, hin, hb, ho⟩ := hrel
    have HX0 := Lib.hid hX0
    have HIN := Lib.hid hin
    have HB := Lib.hid hb
    have HO := Lib.hid ho
    clear hX0 hin hb ho
    by_cases hlt : k < n
    · go_wp2_with fail
      go_loopw [5] (fun s5 wr => ∃ (i : Nat) (X : Nat → Int), i ≤ n ∧ s5 = .int .i64 i ∧ X = (List.range i).foldl (rowE (planOf l)) X0 ∧ InE E X ∧ Below w.heap.size w wr ∧ Own wr w.heap.size 2 1 icell (some ⟨g, 0, none⟩) n (rowU n X)) (fun s5 _ => n - (intOf s5).toNat)
      case atStart => exact ⟨0, X0, by omega, rfl, rfl, HIN.out, HB.out, HO.out⟩
      case round =>
        clear HIN HB HO
        rename World => w2
        obtain ⟨i, X1, hi, rfl, hX1, hin, hb, ho⟩ := hrel
        have HX1 := Lib.hid hX1
        have HIN := Lib.hid hin
        have HB := Lib.hid hb
        have HO := Lib.hid ho
        clear hX1 hin hb ho
        by_cases hlti : i < n
        · have hil : i < l.length := by rw [HL.out]; exact hlti
          obtain ⟨ba, oa, hAe, _, g1, g2, g3, g4⟩ := (HR.out.below HB.out).at4 (k := i) hil
          have hgd : l[i] = jAt l i := (getD_at l i hil _).symm
          rw [hgd] at g2
          obtain ⟨ha1, ha2⟩ := HA.out (jAt l i) (jAt_mem hil)
          have hm10 := HG.out.m10 _ (jAt_mem hil)
          have hls := lsN_ints HG.out hil
          obtain ⟨As, cs, ls, hjs⟩ : ∃ As cs ls, (jAt l i).s = ⟨As, cs, ls⟩ := ⟨_, _, _, rfl⟩
          rw [hjs] at g2 ha1 ha2 hm10 hls
          simp only at ha1 ha2 hm10 hls
          obtain ⟨m, hm⟩ : ∃ m, m = (lsN l i).length := ⟨_, rfl⟩
          have hm' : m = ls.length := by rw [hm, ← hls, intsOf, List.length_map]
          have g2' : w2.cell? ⟨ba, oa + i * 4 + 1, none⟩ = some (.slice As m cs) := by rw [hm']; exact g2
          rw [← hm'] at hm10
          rw [← hls] at ha1
          have HLS := Lib.hid ha1
          have HM := Lib.hid hm
          have HAE := Lib.hid hAe
          subst hAe
          clear g1 g2 g3 g4 hgd hjs ha1 ha2 hls hm hm'
          go_wp2_with fail
          clear g2'
          go_loopw [29] (fun s29 wr => ∃ (u : Nat) (X : Nat → Int), u ≤ m ∧ s29 = .int .i64 u ∧ X = ((lsN l i).take u).foldl (relE (planOf l) i) X1 ∧ InE E X ∧ Below w.heap.size w wr ∧ Own wr w.heap.size 2 1 icell (some ⟨g, 0, none⟩) n (rowU n X)) (fun s29 _ => m - (intOf s29).toNat)
          case atStart => exact ⟨0, X1, by omega, rfl, rfl, HIN.out, HB.out, HO.out⟩
          case round =>
            clear HIN HB HO
            rename World => w3
            obtain ⟨u, X, hu, rfl, hX, hin, hb, ho⟩ := hrel
            have HX := Lib.hid hX
            have HIN := Lib.hid hin
            have HB := Lib.hid hb
            have HO := Lib.hid ho
            clear hX
            by_cases hltu : u < m
            · have hul : u < (lsN l i).length := by rw [← HM.out]; exact hltu
              have hfs := fold_take_succ (relE (planOf l) i) X1 (lsN l i) hul
              rw [← HX.out] at hfs
              obtain ⟨bl, ol, rfl, _, g0⟩ := (HLS.out.below hb).at1 (k := u) (by rw [intsOf, List.length_map]; exact hul)
              rw [show (intsOf (lsN l i))[u]'(by rw [intsOf, List.length_map]; exact hul) = (((lsN l i)[u] : Nat) : Int) by simp [intsOf]] at g0
              have hdm : (lsN l i)[u] ∈ (planOf l).A i := List.getElem_mem hul
              obtain ⟨d, hd⟩ : ∃ d, d = (lsN l i)[u] := ⟨_, rfl⟩
              rw [← hd] at hfs g0 hdm
              have hdn : d < n := HPA.out i d hdm
              have hdl : d < l.length := by rw [HL.out]; exact hdn
              have hRd := HR.out.below hb
              obtain ⟨ba', oa', hAe', d0, d1, d2, d3, d4⟩ := hRd.at4 (k := d) hdl
              clear d0 d2 d3 d4
              obtain ⟨rfl, rfl⟩ : ba' = ba ∧ oa' = oa := by
                simp only [Option.some.injEq, Addr.mk.injEq] at hAe'
                exact ⟨hAe'.1.symm, hAe'.2.1.symm⟩
              have hgd : l[d] = jAt l d := (getD_at l d hdl _).symm
              rw [hgd] at d1
              obtain ⟨xi, _⟩ := rowU_own ho hlti
              obtain ⟨xd, _⟩ := rowU_own ho hdn
              have htm := HTM.out d
              have hXi := hin i
              have hXd := hin d
              have hEi := HBD.out i hlti
              have hEd := HBD.out d hdn
              have hw : IntKind.i64.wrap (X d + (jAt l d).t) = X d + (jAt l d).t := wrap_small (by omega) (by omega)
              have HINN := Lib.hid (relE_in HE.out hin hdm)
              have HFS := Lib.hid hfs
              have HMORE := Lib.hid (relE_more (p := planOf l) (X := X) (i := i) (d := d))
              have HSAME := Lib.hid (relE_same (p := planOf l) (X := X) (i := i) (d := d))
              rw [show (planOf l).tm d = (jAt l d).t from rfl] at HMORE HSAME
              obtain ⟨Xi, hXie⟩ : ∃ z, z = X i := ⟨_, rfl⟩
              obtain ⟨Xd, hXde⟩ : ∃ z, z = X d := ⟨_, rfl⟩
              obtain ⟨t, ht⟩ : ∃ z, z = (jAt l d).t := ⟨_, rfl⟩
              rw [← hXie] at xi HMORE HSAME
              rw [← hXde] at xd hw HMORE HSAME
              rw [← ht] at d1 hw HMORE HSAME
              have hsz := hb.size
              have hi0 : (i : Int) < n := by omega
              clear hb ho hin hfs hdm hd hdl hRd hAe' hgd hXi hXd hEi hEd htm hXie hXde ht
              by_cases hgt : Xi < Xd + t
              · have hdd : decide (Xi < Xd + t) = true := decide_eq_true hgt
                have HREL := Lib.hid (HMORE.out hgt)
                clear hgt
                go_wp2_with fail
                go_quiet (fail)
                go_wp2_with fail
                obtain ⟨w4, hw4⟩ : ∃ w4, w4 = w3.drewN nq := ⟨_, rfl⟩
                rw [← hw4]
                have hb4 : Below w.heap.size w w4 := by rw [hw4]; exact below_drewN HB.out _
                have ho4 : Own w4 w.heap.size 2 1 icell (some ⟨g, 0, none⟩) n (rowU n X) := by rw [hw4]; exact HO.out.drewN _
                have e0 : w4.drew.cell? ⟨ba', oa' + d * 4, none⟩ = some (.int .i64 t) := by rw [hw4]; exact d1
                have e1 : w4.drew.cell? ⟨g, d, none⟩ = some (.int .i64 Xd) := by rw [hw4]; exact xd
                have ef : w4.drew.cell? ⟨g, i, none⟩ = some (.int .i64 Xi) ∧ w4.drew.frozen? ⟨g, i, none⟩ = false := ⟨by rw [hw4]; exact xi, (rowU_own ho4.drew hlti).2⟩
                have HO4 := Lib.hid ho4
                have HB4 := Lib.hid hb4
                clear hw4 hb4 ho4 d1 xd xi
                refine region_plain 13 14 (fun w' => w' = w4.drew) (by kernel_rfl) rfl ?_
                refine anyC_reads (by kernel_rfl) [0, 1, 2, 3, 4, 5, 6, 7, 8, 9, 10, 11, 12] ?opl ?ohl 1 _ _ _ (by kernel_rfl) ?okk
                case ohl => (simp only [List.filterMap_cons, List.filterMap_nil, List.getElem?_toArray, List.getElem?_cons_zero, List.getElem?_cons_succ]; try rfl)
                repeat (
                  refine readC_step (v := ?_) rfl (fun w' hw' => ?_) ?_
                  rotate_left
                  focus (subst hw'; go_simp; try with_reducible rfl)
                  go_simp)
                refine readC_nil ?_
                refine anyC_one (i := 13) (by kernel_rfl) rfl rfl (.inr rfl) ?_
                obtain ⟨e2, e3⟩ := ef
                go_simp
                refine anyC_end (by kernel_rfl) (.inl rfl) ?_
                go_wp2_with fail
                refine ⟨⟨u + 1, _, by omega, by go_num, HFS.out.symm, HINN.out, (HB4.out.setCell (p := ⟨g, i, none⟩) (HO4.out.lt g rfl).1 _).drew, ?_⟩, by simp [intOf]; omega⟩
                rw [HREL.out, ← rowU_upd]
                exact (HO4.out.put1 (f := fun x => .int .i64 x) (k := i) (x := Xd + t) (by rw [rowU_len]; exact hlti)).drew
              · have hdd : decide (Xi < Xd + t) = false := decide_eq_false hgt
                have HREL := Lib.hid (HSAME.out hgt)
                clear hgt
                go_wp2_with fail
                go_quiet (fail)
                go_wp2_with fail
                go_roundw
                case rel => exact ⟨u + 1, _, by omega, by go_num, HFS.out.symm, HINN.out, below_drewN HB.out _, by rw [HREL.out]; exact HO.out.drewN _⟩
                case measure => simp [intOf]; omega
            · obtain rfl : u = m := by omega
              have HEQ : Hid (X = (List.range (i + 1)).foldl (rowE (planOf l)) X0) := Lib.hid (by
                rw [List.range_succ, List.foldl_append, ← HX1.out, HX.out, List.take_of_length_le (by rw [HM.out]; exact Nat.le_refl _)]
                rfl)
              clear hb ho hin
              go_wp2_with fail
              go_roundw
              case rel => exact ⟨i + 1, X, by omega, by go_num, HEQ.out, HIN.out, HB.out, HO.out⟩
              case measure => simp [intOf]; omega
        · obtain rfl : i = n := by omega
          have HEQ : Hid (X1 = earlyR (planOf l) (k + 1)) := Lib.hid (by
            rw [HX1.out, HX0.out]
            show _ = (List.range l.length).foldl (rowE (planOf l)) (earlyR (planOf l) k)
            rw [HL.out])
          go_wp2_with fail
          go_roundw
          case rel => exact ⟨k + 1, X1, by omega, by go_num, HEQ.out, HIN.out, HB.out, HO.out⟩
          case measure => simp [intOf]; omega
    · obtain rfl : k = n := by omega
      go_wp2_with fail
      go_ret
      exact ⟨g, rfl, HB.out, by rw [← HX0.out]; exact HO.out⟩
end Go.Proofs.Ytpinhmhempbmoaa
