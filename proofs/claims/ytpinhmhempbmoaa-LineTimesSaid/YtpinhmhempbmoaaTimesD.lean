/- When jobs may begin and must: the program's walk. Conditions: the jobs read as lists. -/
import Derived.Test.YtpinhmhempbmoaaTimesC
import Derived.Test.YtpinhmhempbmoaaLineC
import Derived.Test.YtpinhmhempbmoaaBackA
import Derived.Test.YtpinhmhempbmoaaHeldB
namespace Go.Proofs.Ytpinhmhempbmoaa
open Go.RowKit Go.Shelf
attribute [local go_sem] Oper.semAt_some

def InT (T X : Nat → Int) : Prop := ∀ j, 0 ≤ X j ∧ X j ≤ T j
theorem relT_in {p : Plan} {T X : Nat → Int} (hT : TailOk p T) (h : InT T X) (h0 : ∀ k, 0 ≤ p.tm k) {i d : Nat} (hd : d ∈ p.A i) : InT T (relT p i X d) := by
  intro j
  unfold relT
  by_cases hj : j = d
  · rw [hj, upd_same]
    have h1 := h i
    have h2 := h d
    have h3 := hT.le i d hd
    have h4 := h0 d
    omega
  · rw [upd_ne _ _ hj]; exact h j
/-- What line.Times answers. -/
def TimesIs (l : List Jb) (n : Nat) (w w' : World) (e : Ending) : Prop :=
  ∃ (A1 : Option Addr) (k1 c1 : Nat) (A2 : Option Addr) (k2 c2 : Nat) (x code : Int), e = .returned (.tuple #[.slice A1 k1 c1, .slice A2 k2 c2, .int .i64 x, .int .i64 code]) ∧ Below w.heap.size w w' ∧
    (jobsCheck l ≠ 0 → code = jobsCheck l ∧ k1 = 0 ∧ k2 = 0 ∧ x = 0) ∧
    (jobsCheck l = 0 → (¬ HasOrder l → code = 5 ∧ k1 = 0 ∧ k2 = 0 ∧ x = 0) ∧
      (HasOrder l → ∀ E T, E = earlyP (planOf l) (planOf l).ord → T = tailP (planOf l) (planOf l).ord.reverse → code = 0 ∧ k1 = n ∧ k2 = n ∧ x = endOf (planOf l) E (planOf l).ord ∧ Els w' w'.heap.size 1 icell A1 (rowU n E) ∧ Els w' w'.heap.size 1 icell A2 (rowU n (fun i => x - T i))))
theorem endOf_take {p : Plan} {E : Nat → Int} (q : List Nat) {k : Nat} (h : k < q.length) : endOf p E (q.take (k + 1)) = max (endOf p E (q.take k)) (E q[k] + p.tm q[k]) := by
  unfold endOf
  exact fold_take_succ _ 0 q h
theorem early_at {p : Plan} (hp : PlanOk p) {k : Nat} (h : k < p.ord.length) {X : Nat → Int} (hX : X = earlyP p (p.ord.take k)) : rowE p X p.ord[k] p.ord[k] = earlyP p p.ord p.ord[k] := by
  have hs : p.ord = p.ord.take k ++ p.ord[k] :: p.ord.drop (k + 1) := by
    rw [List.getElem_cons_drop, List.take_append_drop]
  rw [(early_split hp hs).1, hX]

set_option maxRecDepth 100000 in
set_option maxHeartbeats 4000000 in
theorem line_Times (n : Nat) (A : Option Addr) (c : Nat) (l : List Jb) (hl : l.length = n) (hn : n ≤ maxLen) (w : World) (hr : Els w w.heap.size 4 Jb.cells A l) (ha : Afters w w.heap.size l) :
    Calls Try.prog 11 #[.slice A n c] w fun e w' => TimesIs l n w w' e := by
  obtain ⟨S, hS⟩ : ∃ S, S = w.heap.size := ⟨_, rfl⟩
  obtain ⟨W1, hW1⟩ : ∃ W1, W1 = w.alloc (.cells #[.slice A n c] 22) := ⟨_, rfl⟩
  have hb1 : Below S w W1 := by rw [hW1, hS]; exact (Below.refl _ w).alloc (Nat.le_refl _) _
  have hk1 : Blk W1 S 22 #[.slice A n c] := by rw [hW1, hS]; exact Blk.new w _ _
  have hz1 : W1.heap.size = S + 1 := by rw [hW1, hS, size_alloc']
  have hr1 : Els W1 S 4 Jb.cells A l := by rw [hS] at hb1 ⊢; exact hr.below hb1
  have ha1 : Afters W1 S l := by rw [hS] at hb1 ⊢; exact ha.below hb1
  have c0 := hk1.cell 0
  have HO := Lib.hid (line_Order l A n c W1 hl hn (hr1.more (by omega)) (ha1.more (by omega)))
  have HL := Lib.hid hl
  have HR1 := Lib.hid hr1
  have HA1 := Lib.hid ha1
  have HB1 := Lib.hid hb1
  have HK1 := Lib.hid hk1
  have HW1 := Lib.hid hW1
  have HS := Lib.hid hS
  clear hr ha hb1 hk1 hr1 ha1 hW1 hS
  refine (callsIn_wide (n := 9)).1 ?_
  refine callsIn_of_wp_marks Try.func11 rfl trivial ?_ rfl
  simp only [Try.ntmps11, List.size_toArray, List.length_cons, List.length_nil, Nat.reduceAdd, Nat.reduceSub, Array.replicate_succ, Array.replicate_zero, List.push_toArray, List.append_toArray, List.nil_append, List.cons_append]
  refine wpIn_wide.2 ?_
  go_wp2_with fail
  rw [← HS.out, ← HW1.out]
  clear HW1
  refine HO.out.mono ?_
  clear HO
  rintro e v1 ⟨Ao, ko, co, code, rfl, hb2, hbad, hgood⟩
  have hb2' := HB1.out.trans (hb2.mono (by omega))
  have hk2 := HK1.out.below hb2 (by omega)
  have hzv : S + 1 ≤ v1.heap.size := by have := hb2.size; omega
  have HB2 := Lib.hid hb2'
  have HK2 := Lib.hid hk2
  have HRV := Lib.hid (HR1.out.below (hb2.mono (by omega)))
  have HAV := Lib.hid (HA1.out.below (hb2.mono (by omega)))
  have HBAD := Lib.hid hbad
  have HGOOD := Lib.hid hgood
  clear hb2 hb2' hbad hgood c0
  have c0 := hk2.cell 0
  clear hk2
  by_cases hbd : jobsCheck l ≠ 0
  · obtain ⟨rfl, rfl⟩ := HBAD.out hbd
    have hne : (jobsCheck l != 0) = true := by simpa using hbd
    obtain ⟨jc, hjc⟩ : ∃ jc, jc = jobsCheck l := ⟨_, rfl⟩
    rw [← hjc] at hne ⊢
    have HJC := Lib.hid hjc
    have HBD := Lib.hid hbd
    clear hjc hbd
    go_wp2_with fail
    refine bodyPostM_ret (Marks.nil S v1) fun w' hw' => ⟨.tuple #[.slice none 0 0, .slice none 0 0, .int .i64 0, .int .i64 jc], by simp [results, Try.results11, go_sem], ?_⟩
    exact ⟨none, 0, 0, none, 0, 0, 0, jc, rfl, by rw [← HS.out]; exact HB2.out.trans hw'.1, fun _ => ⟨HJC.out, rfl, rfl, rfl⟩, fun h => absurd h HBD.out⟩
  have h0 : jobsCheck l = 0 := Classical.byContradiction hbd
  obtain ⟨hyes, hno⟩ := HGOOD.out h0
  by_cases hor : HasOrder l
  · obtain ⟨rfl, rfl, hels⟩ := hyes hor
    have hg := jobs_good h0
    have hp := plan_ok hg hor
    have hn10 := hg.n10
    rw [HL.out] at hn10
    have HE := Lib.hid (early_ok hp (plan_far l))
    have HT := Lib.hid (tail_ok hp (plan_far l))
    have hol := ord_length hp
    rw [show (planOf l).n = ko from HL.out] at hol
    have hoi := ord_ints hg hor
    rw [HL.out] at hoi
    rw [← hoi] at hels
    have HOE := Lib.hid hels
    have HOLN := Lib.hid hol
    have HG := Lib.hid hg
    have HP := Lib.hid hp
    have HLT : Hid (∀ i ∈ (planOf l).ord, i < ko) := Lib.hid (fun i hi => by rw [← HL.out]; exact (hp.mem i).1 hi)
    have HPA : Hid (∀ i k, k ∈ lsN l i → k < ko) := Lib.hid (fun i k h => by rw [← HL.out]; exact hp.A i k h)
    have HTM : Hid (∀ i, 0 ≤ (jAt l i).t ∧ (jAt l i).t ≤ 1048576) := Lib.hid hp.tm
    obtain ⟨E, hEe⟩ : ∃ E, E = earlyP (planOf l) (planOf l).ord := ⟨_, rfl⟩
    obtain ⟨T, hTe⟩ : ∃ T, T = tailP (planOf l) (planOf l).ord.reverse := ⟨_, rfl⟩
    rw [← hEe] at HE
    rw [← hTe] at HT
    have HEE := Lib.hid hEe
    have HTE := Lib.hid hTe
    have HEB : Hid (∀ i, i < ko → 0 ≤ E i ∧ E i ≤ 10485760) := Lib.hid (fun i hi => by
      have h1 := early_bound hp HE.out i (show i < (planOf l).n by rw [show (planOf l).n = ko from HL.out]; exact hi)
      have h2 : ((planOf l).n : Int) ≤ 10 := by rw [show (planOf l).n = ko from HL.out]; omega
      exact ⟨HE.out.pos i, by omega⟩)
    have HTB : Hid (∀ i, i < ko → 0 ≤ T i ∧ T i ≤ 10485760) := Lib.hid (fun i hi => by
      have h1 := tail_bound hp HT.out i (show i < (planOf l).n by rw [show (planOf l).n = ko from HL.out]; exact hi)
      have h2 : ((planOf l).n : Int) ≤ 10 := by rw [show (planOf l).n = ko from HL.out]; omega
      exact ⟨Int.le_trans (hp.tm i).1 (HT.out.pos i), by omega⟩)
    have HFB : Hid (∀ k, k ≤ ko → 0 ≤ endOf (planOf l) E ((planOf l).ord.take k) ∧ endOf (planOf l) E ((planOf l).ord.take k) ≤ 11534336) := Lib.hid (fun k hk =>
      ⟨endOf_ge0 _ 0, endOf_le _ 0 (by omega) fun i hi => by
        have h1 := (HEB.out i (HLT.out i (List.mem_of_mem_take hi))).2
        have h2 := (hp.tm i).2
        omega⟩)
    have HFS : Hid (∀ k (h : k < (planOf l).ord.length), endOf (planOf l) E ((planOf l).ord.take (k + 1)) = max (endOf (planOf l) E ((planOf l).ord.take k)) (E (planOf l).ord[k] + (jAt l (planOf l).ord[k]).t)) := Lib.hid (fun k h => endOf_take _ h)
    have HEA : Hid (∀ k (h : k < (planOf l).ord.length) X, X = earlyP (planOf l) ((planOf l).ord.take k) → rowE (planOf l) X (planOf l).ord[k] (planOf l).ord[k] = E (planOf l).ord[k]) := Lib.hid (fun k h X hX => by rw [HEE.out]; exact early_at HP.out h hX)
    have HI0 : Hid (InE E (earlyP (planOf l) ((planOf l).ord.take 0))) := Lib.hid (fun j => ⟨Int.le_refl _, HE.out.pos j⟩)
    have H0 := Lib.hid h0
    have HOR := Lib.hid hor
    clear hyes hno h0 hor hbd hg hp hol hoi hels hEe hTe HBAD HGOOD
    obtain ⟨q, hq⟩ : ∃ q, q = (planOf l).ord := ⟨_, rfl⟩
    rw [← hq] at HOE HOLN HLT HFB HFS HEA HI0
    have HQ := Lib.hid hq
    clear hq
    go_wp2_with (at_make; go_loud (refine wpList_make1 rfl _ _ _ rfl v1.heap.size 2 8 (fun x => .int .i64 x) 0 Try.underlying23 (by kernel_rfl) rfl v1 .i64 .i64 ko rfl rfl (by omega) (by unfold maxLen; omega) (Nat.le_refl _) ?_; intro v2 hown1 hgrow1))
    obtain ⟨g, hgg⟩ : ∃ g, g = v1.heap.size := ⟨_, rfl⟩
    have HV2 : Hid (Below v1.heap.size v1 v2) := Lib.hid ((Below.refl _ _).grown hgrow1 (Nat.le_refl _) (fun g hg => by cases hg))
    have HO2 : Hid (Own v2 v1.heap.size 2 1 icell (some ⟨g, 0, none⟩) ko (rowU ko (earlyP (planOf l) (q.take 0)))) := Lib.hid (by
      rw [rowU_rep] at hown1
      rw [hgg]; exact hown1)
    rw [← hgg]
    have HGG := Lib.hid hgg
    clear hown1 hgrow1 hgg c0
    have c0 := (HK2.out.below HV2.out (by omega)).cell 0
    go_wp2_with fail
    clear c0
    go_loopw [34, 9] (fun s34 s9 wr => ∃ (k : Nat) (X : Nat → Int), k ≤ ko ∧ s34 = .int .i64 k ∧ s9 = .int .i64 (endOf (planOf l) E (q.take k)) ∧ X = earlyP (planOf l) (q.take k) ∧ InE E X ∧ Below v1.heap.size v1 wr ∧ Own wr v1.heap.size 2 1 icell (some ⟨g, 0, none⟩) ko (rowU ko X)) (fun s34 _ _ => ko - (intOf s34).toNat)
    case atStart => exact ⟨0, _, by omega, rfl, rfl, rfl, HI0.out, HV2.out, HO2.out⟩
    case round =>
      clear HV2 HO2 HI0 v2
      rename World => w2
      obtain ⟨k, X0, hk, rfl, rfl, hX0, hin, hb, ho⟩ := hrel
      have HX0 := Lib.hid hX0
      have HIN := Lib.hid hin
      have HB := Lib.hid hb
      have HO := Lib.hid ho
      have hfb := HFB.out k hk
      have hsz := hb.size
      clear hX0 hin ho
      by_cases hlt : k < ko
      · have hkq : k < q.length := by rw [HOLN.out]; exact hlt
        obtain ⟨bq, oq, rfl, _, q0⟩ := (HOE.out.below hb).at1 (k := k) (by rw [intsOf, List.length_map]; exact hkq)
        rw [show (intsOf q)[k]'(by rw [intsOf, List.length_map]; exact hkq) = ((q[k] : Nat) : Int) by simp [intsOf]] at q0
        have hiko := HLT.out q[k] (List.getElem_mem hkq)
        have HFK := Lib.hid (HFS.out k hkq)
        have HEK := Lib.hid (HEA.out k hkq X0 HX0.out)
        have HTK : Hid (q.take (k + 1) = q.take k ++ [q[k]]) := Lib.hid (by rw [List.take_add_one, List.getElem?_eq_getElem hkq]; rfl)
        obtain ⟨i, hi⟩ : ∃ i, i = q[k] := ⟨_, rfl⟩
        rw [← hi] at q0 hiko HFK HEK HTK
        obtain ⟨fk, hfk⟩ : ∃ z, z = endOf (planOf l) E (q.take k) := ⟨_, rfl⟩
        rw [← hfk] at HFK hfb ⊢
        clear hi hfk
        have hil : i < l.length := by rw [HL.out]; exact hiko
        obtain ⟨ba, oa, hAe, _, g1, g2, g3, g4⟩ := (HRV.out.below (hb.mono (by omega))).at4 (k := i) hil
        have hgd : l[i] = jAt l i := (getD_at l i hil _).symm
        rw [hgd] at g1 g2
        obtain ⟨ha1, ha2⟩ := HAV.out (jAt l i) (jAt_mem hil)
        have hm10 := HG.out.m10 _ (jAt_mem hil)
        have hls := lsN_ints HG.out hil
        obtain ⟨As, cs, ls, hjs⟩ : ∃ As cs ls, (jAt l i).s = ⟨As, cs, ls⟩ := ⟨_, _, _, rfl⟩
        rw [hjs] at g2 ha1 ha2 hm10 hls
        simp only at ha1 ha2 hm10 hls
        obtain ⟨m, hm⟩ : ∃ m, m = (lsN l i).length := ⟨_, rfl⟩
        have hm' : m = ls.length := by rw [hm, ← hls, intsOf, List.length_map]
        have g2' : w2.cell? ⟨ba, oa + i * 4 + 1, none⟩ = some (.slice As m cs) := by rw [hm']; exact g2
        rw [← hm'] at hm10
        rw [← hls] at ha1
        have HLS := Lib.hid ha1
        have HM := Lib.hid hm
        have HAE := Lib.hid hAe
        subst hAe
        have c0 := (HK2.out.below hb (by omega)).cell 0
        have htm := HTM.out i
        obtain ⟨ti, hti⟩ : ∃ z, z = (jAt l i).t := ⟨_, rfl⟩
        rw [← hti] at htm HFK
        have HTI := Lib.hid hti
        clear g1 g2 g3 g4 hgd hjs ha1 ha2 hls hm hm' hti hb
        go_wp2_with fail
        clear g2' c0 q0
        go_loopw [44] (fun s44 wr => ∃ (u : Nat) (X : Nat → Int), u ≤ m ∧ s44 = .int .i64 u ∧ X = ((lsN l i).take u).foldl (relE (planOf l) i) X0 ∧ InE E X ∧ Below v1.heap.size v1 wr ∧ Own wr v1.heap.size 2 1 icell (some ⟨g, 0, none⟩) ko (rowU ko X)) (fun s44 _ => m - (intOf s44).toNat)
        case atStart => exact ⟨0, X0, by omega, rfl, rfl, HIN.out, HB.out, HO.out⟩
        case round =>
          clear HIN HB HO hsz w2
          rename World => w3
          obtain ⟨u, X, hu, rfl, hX, hin, hb, ho⟩ := hrel
          have HX := Lib.hid hX
          have HIN := Lib.hid hin
          have HB := Lib.hid hb
          have HO := Lib.hid ho
          have hsz := hb.size
          clear hX
          by_cases hltu : u < m
          · have hul : u < (lsN l i).length := by rw [← HM.out]; exact hltu
            have hfs := fold_take_succ (relE (planOf l) i) X0 (lsN l i) hul
            rw [← HX.out] at hfs
            obtain ⟨bl, ol, rfl, _, g0⟩ := (HLS.out.below (hb.mono (by omega))).at1 (k := u) (by rw [intsOf, List.length_map]; exact hul)
            rw [show (intsOf (lsN l i))[u]'(by rw [intsOf, List.length_map]; exact hul) = (((lsN l i)[u] : Nat) : Int) by simp [intsOf]] at g0
            have hdm : (lsN l i)[u] ∈ (planOf l).A i := List.getElem_mem hul
            obtain ⟨d, hd⟩ : ∃ d, d = (lsN l i)[u] := ⟨_, rfl⟩
            rw [← hd] at hfs g0 hdm
            have hdn : d < ko := HPA.out i d hdm
            have hdl : d < l.length := by rw [HL.out]; exact hdn
            obtain ⟨ba', oa', hAe', d0, d1, d2, d3, d4⟩ := (HRV.out.below (hb.mono (by omega))).at4 (k := d) hdl
            clear d0 d2 d3 d4
            obtain ⟨rfl, rfl⟩ : ba' = ba ∧ oa' = oa := by
              simp only [Option.some.injEq, Addr.mk.injEq] at hAe'
              exact ⟨hAe'.1.symm, hAe'.2.1.symm⟩
            have hgd : l[d] = jAt l d := (getD_at l d hdl _).symm
            rw [hgd] at d1
            obtain ⟨xi, fi⟩ := rowU_own ho hiko
            obtain ⟨xd, _⟩ := rowU_own ho hdn
            have htd := HTM.out d
            have hXi := hin i
            have hXd := hin d
            have hEi := HEB.out i hiko
            have hEd := HEB.out d hdn
            have hw : IntKind.i64.wrap (X d + (jAt l d).t) = X d + (jAt l d).t := wrap_small (by omega) (by omega)
            have HINN := Lib.hid (relE_in HE.out hin hdm)
            have HFS' := Lib.hid hfs
            have c0 := (HK2.out.below hb (by omega)).cell 0
            have HREL : Hid (relE (planOf l) i X d = upd X i (if X i < X d + (jAt l d).t then X d + (jAt l d).t else X i)) := Lib.hid (by
              unfold relE
              rw [show max (X i) (X d + (planOf l).tm d) = (if X i < X d + (jAt l d).t then X d + (jAt l d).t else X i) by
                show max (X i) (X d + (jAt l d).t) = _
                rw [Int.max_def]; split <;> split <;> omega])
            obtain ⟨Xi, hXie⟩ : ∃ z, z = X i := ⟨_, rfl⟩
            obtain ⟨Xd, hXde⟩ : ∃ z, z = X d := ⟨_, rfl⟩
            obtain ⟨t, ht⟩ : ∃ z, z = (jAt l d).t := ⟨_, rfl⟩
            rw [← hXie] at xi HREL
            rw [← hXde] at xd hw HREL
            rw [← ht] at d1 hw HREL
            clear hb ho hin hfs hdm hd hdl hAe' hgd hXi hXd hEi hEd htd hXie hXde ht
            go_wp2_with fail
            have e0 : w3.drew.cell? ⟨ba', oa' + d * 4, none⟩ = some (.int .i64 t) := d1
            have e1 : w3.drew.cell? ⟨g, d, none⟩ = some (.int .i64 Xd) := xd
            have e2 : w3.drew.cell? ⟨g, i, none⟩ = some (.int .i64 Xi) := xi
            have e3 : w3.drew.frozen? ⟨g, i, none⟩ = false := fi
            have e4 : w3.drew.cell? ⟨S, 0, none⟩ = some (.slice (some ⟨ba', oa', none⟩) ko c) := c0
            clear d1 xd xi fi c0 g0
            refine region_plain 18 19 (fun w' => w' = w3.drew) (by kernel_rfl) rfl ?_
            refine anyC_reads (by kernel_rfl) [0, 1, 2, 3, 4, 5, 6, 7, 8, 9, 10, 11, 12, 13, 14, 15] ?opl ?ohl 3 _ _ _ (by kernel_rfl) ?okk
            case ohl => (simp only [List.filterMap_cons, List.filterMap_nil, List.getElem?_toArray, List.getElem?_cons_zero, List.getElem?_cons_succ]; try rfl)
            repeat (
              refine readC_step (v := ?_) rfl (fun w' hw' => ?_) ?_
              rotate_left
              focus (subst hw'; go_simp; try with_reducible rfl)
              go_simp)
            refine readC_nil ?_
            refine anyC_one (i := 16) (by kernel_rfl) rfl rfl (.inr rfl) ?_
            go_simp
            refine anyC_one (i := 17) (by kernel_rfl) rfl rfl (.inr rfl) ?_
            go_simp
            refine anyC_one (i := 18) (by kernel_rfl) rfl rfl (.inr rfl) ?_
            go_simp
            refine anyC_end (by kernel_rfl) (.inl rfl) ?_
            go_wp2_with fail
            refine ⟨⟨u + 1, _, by omega, by go_num, HFS'.out.symm, HINN.out, (HB.out.setCell (p := ⟨g, i, none⟩) (HO.out.lt g rfl).1 _).drew, ?_⟩, by simp [intOf]; omega⟩
            rw [HREL.out, ← rowU_upd]
            exact (HO.out.put1 (f := fun x => .int .i64 x) (k := i) (by rw [rowU_len]; exact hiko)).drew
          · obtain rfl : u = m := by omega
            have HX1 : Hid (X = rowE (planOf l) X0 i) := Lib.hid (by
              rw [HX.out, List.take_of_length_le (by rw [HM.out]; exact Nat.le_refl _)]
              rfl)
            have hxe : X i = E i := by rw [HX1.out]; exact HEK.out
            have HX2 : Hid (X = earlyP (planOf l) (q.take (k + 1))) := Lib.hid (by
              rw [HTK.out]
              unfold earlyP
              rw [List.foldl_append]
              show X = rowE (planOf l) (earlyP (planOf l) (q.take k)) i
              rw [← HX0.out]; exact HX1.out)
            obtain ⟨xi, fi⟩ := rowU_own ho hiko
            rw [hxe] at xi
            have hEi := HEB.out i hiko
            have c0 := (HK2.out.below hb (by omega)).cell 0
            obtain ⟨ba', oa', hAe', d0, d1, d2, d3, d4⟩ := (HRV.out.below (hb.mono (by omega))).at4 (k := i) hil
            clear d0 d2 d3 d4
            obtain ⟨rfl, rfl⟩ : ba' = ba ∧ oa' = oa := by
              simp only [Option.some.injEq, Addr.mk.injEq] at hAe'
              exact ⟨hAe'.1.symm, hAe'.2.1.symm⟩
            have hgd : l[i] = jAt l i := (getD_at l i hil _).symm
            rw [hgd, ← HTI.out] at d1
            obtain ⟨ei, hei⟩ : ∃ z, z = E i := ⟨_, rfl⟩
            rw [← hei] at xi hEi HFK
            have hw : IntKind.i64.wrap (ei + ti) = ei + ti := wrap_small (by omega) (by omega)
            have HMX : Hid (max fk (ei + ti) = if fk < ei + ti then ei + ti else fk) := Lib.hid (by rw [Int.max_def]; split <;> split <;> omega)
            clear hb ho hin hxe hAe' hgd hei hEi
            go_wp2_with fail
            have e0 : w3.drew.cell? ⟨ba', oa' + i * 4, none⟩ = some (.int .i64 ti) := d1
            have e2 : w3.drew.cell? ⟨g, i, none⟩ = some (.int .i64 ei) := xi
            have e4 : w3.drew.cell? ⟨S, 0, none⟩ = some (.slice (some ⟨ba', oa', none⟩) ko c) := c0
            clear d1 xi fi c0
            refine region_plain 99 13 (fun w' => w' = w3.drew) (by kernel_rfl) rfl ?_
            refine anyC_reads (by kernel_rfl) [0, 1, 2, 3, 4, 5, 6, 7, 8, 9, 10] ?opm ?ohm 2 _ _ _ (by kernel_rfl) ?okm
            case ohm => (simp only [List.filterMap_cons, List.filterMap_nil, List.getElem?_toArray, List.getElem?_cons_zero, List.getElem?_cons_succ]; try rfl)
            repeat (
              refine readC_step (v := ?_) rfl (fun w' hw' => ?_) ?_
              rotate_left
              focus (subst hw'; go_simp; try with_reducible rfl)
              go_simp)
            refine readC_nil ?_
            refine anyC_one (i := 11) (by kernel_rfl) rfl rfl (.inr rfl) ?_
            go_simp
            refine anyC_one (i := 12) (by kernel_rfl) rfl rfl (.inr rfl) ?_
            go_simp
            refine anyC_end (by kernel_rfl) (.inr rfl) ?_
            go_wp2_with fail
            go_roundw
            case rel => exact ⟨k + 1, X, by omega, by go_num, by rw [HFK.out, HMX.out], HX2.out, HIN.out, HB.out.drew, HO.out.drew⟩
            case measure => simp [intOf]; omega
      · obtain rfl : k = ko := by omega
        have htk : q.take k = q := List.take_of_length_le (by rw [HOLN.out]; exact Nat.le_refl _)
        have HXE : Hid (X0 = E) := Lib.hid (by rw [HX0.out, htk, HEE.out, HQ.out])
        obtain ⟨fin, hfin⟩ : ∃ z, z = endOf (planOf l) E (q.take k) := ⟨_, rfl⟩
        rw [← hfin] at hfb ⊢
        have HFIN : Hid (fin = endOf (planOf l) E q) := Lib.hid (by rw [hfin, htk])
        have HKW := Lib.hid (HK2.out.below hb (by omega))
        have HRW := Lib.hid (HRV.out.below (hb.mono (by omega)))
        have HAW := Lib.hid (HAV.out.below (hb.mono (by omega)))
        have HOW := Lib.hid ((HOE.out.below hb).more hsz)
        have HBW := Lib.hid (HB2.out.trans (hb.mono (by omega)))
        have HEO : Hid (Own w2 v1.heap.size 2 1 icell (some ⟨g, 0, none⟩) k (rowU k E)) := Lib.hid (by rw [← HXE.out]; exact HO.out)
        have c0 := HKW.out.cell 0
        have hSw : S < w2.heap.size := HKW.out.lt
        clear hb hfin htk HFB HFS HEA HX0 HIN HB HO HE HXE HOE HRV HAV HK2 HB2
        go_wp2_with (at_make; go_loud (refine wpList_make1 rfl _ _ _ rfl w2.heap.size 2 8 (fun x => .int .i64 x) 0 Try.underlying23 (by kernel_rfl) rfl w2 .i64 .i64 k rfl rfl (by omega) (by unfold maxLen; omega) (Nat.le_refl _) ?_; intro v3 hown3 hgrow3; have hb30 := (Below.refl w2.heap.size w2).grown hgrow3 (Nat.le_refl _) (fun g hg => by cases hg); have c0' := (HKW.out.below hb30 hSw).cell 0; have hS3 : S < v3.heap.size := Nat.lt_of_lt_of_le hSw hb30.size; clear hb30))
        obtain ⟨z, hz⟩ : ∃ z, z = w2.heap.size := ⟨_, rfl⟩
        obtain ⟨V, hV⟩ : ∃ V, V = v3.alloc (.cells #[.slice (some ⟨z, 0, none⟩) k k] 23) := ⟨_, rfl⟩
        obtain ⟨T14, hT14⟩ : ∃ T14, T14 = v3.heap.size := ⟨_, rfl⟩
        have hb3 : Below z w2 v3 := by rw [hz]; exact (Below.refl _ _).grown hgrow3 (Nat.le_refl _) (fun g hg => by cases hg)
        have hzT : z < T14 := by rw [hT14, hz]; exact (hown3.lt _ rfl).2
        have hbV : Below z w2 V := by rw [hV]; exact hb3.alloc (by omega) _
        have hoV : Own V z 2 1 icell (some ⟨z, 0, none⟩) k (rowU k (fun i => if i < 0 then fin - (jAt l i).t else 0)) := by
          rw [hV, hz]
          have := hown3.alloc (.cells #[.slice (some ⟨w2.heap.size, 0, none⟩) k k] 23)
          rw [rowU_rep] at this
          exact this
        have hxV : Blk V T14 23 #[.slice (some ⟨z, 0, none⟩) k k] := by rw [hV, hT14]; exact Blk.new _ _ _
        rw [← hz, ← hV, ← hT14]
        have HZ := Lib.hid hz
        have HBV := Lib.hid hbV
        have HOV := Lib.hid hoV
        have HXV := Lib.hid hxV
        rw [← hz] at hSw
        clear hown3 hgrow3 hb3 hbV hoV hxV hV hT14 c0 c0' hS3 hz
        go_loopw [85] (fun s85 wr => ∃ j : Nat, j ≤ k ∧ s85 = .int .i64 j ∧ Below z w2 wr ∧ Own wr z 2 1 icell (some ⟨z, 0, none⟩) k (rowU k (fun i => if i < j then fin - (jAt l i).t else 0)) ∧ Blk wr T14 23 #[.slice (some ⟨z, 0, none⟩) k k]) (fun s85 _ => k - (intOf s85).toNat)
        case atStart => exact ⟨0, by omega, rfl, HBV.out, HOV.out, HXV.out⟩
        case round =>
          clear HBV HOV HXV V
          rename World => w5
          obtain ⟨j, hj, rfl, hb, ho, hx⟩ := hrel
          have HB5 := Lib.hid hb
          have HO5 := Lib.hid ho
          have HX5 := Lib.hid hx
          have hsz5 := hb.size
          have x0 := hx.cell 0
          have hT5 := hx.lt
          clear hx
          by_cases hltj : j < k
          · have hjl : j < l.length := by rw [HL.out]; exact hltj
            obtain ⟨ba, oa, rfl, hba, g1, g2, g3, g4⟩ := ((HRW.out.below (hb.mono (by omega))).more (by omega : S ≤ w5.heap.size)).at4 (k := j) hjl
            have hgd : l[j] = jAt l j := (getD_at l j hjl _).symm
            rw [hgd] at g1 g2 g3 g4
            have htm := HTM.out j
            obtain ⟨xj, fj⟩ := rowU_own ho hltj
            obtain ⟨jb, hjb⟩ : ∃ jb, jb = jAt l j := ⟨_, rfl⟩
            rw [← hjb] at g1 g2 g3 g4 htm
            have HJB := Lib.hid hjb
            obtain ⟨t, sl, x, y⟩ := jb
            simp only at g1 g2 g3 g4 htm
            have hw : IntKind.i64.wrap (fin - t) = fin - t := IntWalk.i64_in _ (by omega)
            have hz5 : z < w5.heap.size := by omega
            have HUP : Hid ((rowU k (fun i => if i < j then fin - (jAt l i).t else 0)).set j (fin - t) = rowU k (fun i => if i < j + 1 then fin - (jAt l i).t else 0)) := Lib.hid (by
              rw [rowU_upd]
              refine rowU_congr fun i hi => ?_
              unfold upd
              by_cases e : i = j
              · rw [if_pos e, if_pos (by omega), e, ← HJB.out]
              · rw [if_neg e]
                show (if i < j then fin - (jAt l i).t else 0) = _
                by_cases e2 : i < j
                · rw [if_pos e2, if_pos (by omega)]
                · rw [if_neg e2, if_neg (by omega)])
            clear hb ho hgd hjb hjl
            go_wp2_with fail
            refine ⟨⟨j + 1, by omega, by go_num, (HB5.out.setCell (p := ⟨z, j, none⟩) (Nat.le_refl z) _).alloc (by simp only [World.size_setCell]; omega) _, ?_, (HX5.out.far (p := ⟨z, j, none⟩) (show T14 ≠ z by omega) _).alloc _⟩, by simp [intOf]; omega⟩
            rw [← HUP.out]
            exact (HO5.out.put1 (f := fun x => .int .i64 x) (k := j) (by rw [rowU_len]; exact hltj)).alloc _
          · obtain rfl : j = k := by omega
            have HOF : Hid (Own w5 z 2 1 icell (some ⟨z, 0, none⟩) j (rowU j (fun i => fin - tailP (planOf l) [] i))) := Lib.hid (by
              rw [rowU_congr (g := fun i => if i < j then fin - (jAt l i).t else 0) (fun i hi => by rw [if_pos hi]; rfl)]
              exact HO5.out)
            have HBK := Lib.hid (back_calls j co Ao w5)
            have c0 := (HKW.out.below hb hSw).cell 0
            clear hb ho
            go_wp2_with fail
            refine HBK.out.mono ?_
            clear HBK
            rintro e w6 ⟨rfl, rfl⟩
            obtain ⟨P, hP⟩ : ∃ P, P = w5.heap.size := ⟨_, rfl⟩
            obtain ⟨w6, hw6⟩ : ∃ w6, w6 = w5.alloc (.cells #[.slice Ao j co] 28) := ⟨_, rfl⟩
            have h6 : Below P w5 w6 := by rw [hw6, hP]; exact (Below.refl _ w5).alloc (Nat.le_refl _) _
            have hp6 : Blk w6 P 28 #[.slice Ao j co] := by rw [hw6, hP]; exact Blk.new w5 _ _
            have hz6 : w6.heap.size = P + 1 := by rw [hw6, hP, size_alloc']
            have hzP : z ≤ P := by omega
            have hTP : T14 < P := by omega
            have hb6 : Below z w2 w6 := HB5.out.trans (h6.mono hzP)
            have HX6 := Lib.hid (HX5.out.below h6 hTP)
            have HO6 := Lib.hid (HOF.out.below h6 (by omega))
            have HB6 := Lib.hid hb6
            have HP6 := Lib.hid hp6
            rw [← hw6, ← hP]
            clear h6 hb6 hp6 hw6 hP HB5 HO5 HX5 HOF x0 c0
            go_wp2_with fail
            refine wpIn_wide.1 (wpIn_iter2 (p1 := 100) (p2 := 101) (q := 18) 9 70 #[.pointer (some ⟨P, 0, none⟩)] (fun x : Nat × Nat => .int .i64 x.1) (fun x => .int .i64 x.2) _ (fun _ _ => True) (KeepZ z P) (fun W W' => W = W') (backL q j j) rfl (enters_of Try.func70 (by kernel_rfl) rfl)
              (back_seq j z P co (by omega) Ao q HOLN.out)
              (fun V' hV' hs => ⟨HP6.out.below hV' (by omega), by rw [HZ.out]; exact HOW.out.below (by rw [← HZ.out]; exact HB6.out.trans (hV'.mono (by omega)))⟩)
              (fun A B k hh _ _ _ => by rw [hh]) (fun x W o _ h => h)
              (fun W o hl => ⟨by simp, fun k hk => World.putObj_heap_other (by omega)⟩)
              (fun h k => h.trans k)
              (fun pre W => Below z w2 W ∧ Blk W T14 23 #[.slice (some ⟨z, 0, none⟩) j j] ∧ Own W z 2 1 icell (some ⟨z, 0, none⟩) j (rowU j (fun i => fin - tailP (planOf l) (pre.map Prod.snd) i)) ∧ P < W.heap.size) (fun _ _ _ => False)
              (fun pre X Y row h hg hr => ⟨h.1.grown hg (by have := h.1.size; have := HZ.out; omega) (fun g e => by have := (hr g e).1; omega), blk_kept h.2.1 hg (fun r e => (hr r e).2), own_kept h.2.2.1 hg (fun r e => (hr r e).2), Nat.lt_of_lt_of_le h.2.2.2 hg.size⟩) (fun _ _ _ _ _ h _ _ => h)
              (fun pre A B h hh => hh ▸ h) (fun _ _ _ _ h _ => h) ⟨HB6.out, HX6.out, HO6.out, by omega⟩ ?assign ?body ?done (fun _ _ _ _ _ _ h _ => h.elim))
            case assign =>
              intro m l x W K hK
              simp only [List.setIfInBounds_toArray, List.set_cons_succ, List.set_cons_zero] at hK ⊢
              gi_wp2_with fail
              exact hK
            case body =>
              rintro m l1 pre ⟨i0, i⟩ W ⟨hb, hx, ho, hPW⟩ _ hpx
              have hmem : i ∈ q := by
                have h1 : (i0, i) ∈ backL q j j := hpx.subset (by simp)
                have h2 : i ∈ (backL q j j).map Prod.snd := List.mem_map.2 ⟨_, h1, rfl⟩
                rw [backL_snd HOLN.out j (Nat.le_refl _)] at h2
                exact List.mem_reverse.1 (List.mem_of_mem_take h2)
              have hij : i < j := HLT.out i hmem
              have hpre : (pre.map Prod.snd ++ [i]) <+: q.reverse := by
                obtain ⟨r, hr⟩ := hpx
                have := congrArg (List.map Prod.snd) hr
                rw [backL_snd HOLN.out j (Nat.le_refl _), List.take_of_length_le (by rw [List.length_reverse, HOLN.out]; exact Nat.le_refl _)] at this
                exact ⟨r.map Prod.snd, by rw [← this]; simp⟩
              have HTN : Hid (tailP (planOf l) ((pre ++ [(i0, i)]).map Prod.snd) = rowT (planOf l) (tailP (planOf l) (pre.map Prod.snd)) i) := Lib.hid (by
                rw [List.map_append]
                unfold tailP
                rw [List.foldl_append]
                rfl)
              obtain ⟨X0, hX0⟩ : ∃ X, X = tailP (planOf l) (pre.map Prod.snd) := ⟨_, rfl⟩
              have hin : InT T X0 := by
                obtain ⟨r, hr⟩ := hpre
                have hTX : T = ([i] ++ r).foldl (rowT (planOf l)) X0 := by
                  rw [HTE.out, ← HQ.out, ← hr, hX0, List.append_assoc]
                  unfold tailP
                  rw [List.foldl_append]
                intro y
                refine ⟨?_, ?_⟩
                · rw [hX0]; exact Int.le_trans (HTM.out y).1 (tail_mono _ (planOf l).tm y)
                · rw [hTX]; exact tail_mono _ _ y
              rw [← hX0] at ho HTN
              have hil : i < l.length := by rw [HL.out]; exact hij
              obtain ⟨ba, oa, hAe, _, g1, g2, g3, g4⟩ := (HRW.out.below (hb.mono (by omega))).at4 (k := i) hil
              have hgd : l[i] = jAt l i := (getD_at l i hil _).symm
              rw [hgd] at g1 g2
              obtain ⟨ha1, ha2⟩ := HAW.out (jAt l i) (jAt_mem hil)
              have hm10 := HG.out.m10 _ (jAt_mem hil)
              have hls := lsN_ints HG.out hil
              obtain ⟨As, cs, ls, hjs⟩ : ∃ As cs ls, (jAt l i).s = ⟨As, cs, ls⟩ := ⟨_, _, _, rfl⟩
              rw [hjs] at g2 ha1 ha2 hm10 hls
              simp only at ha1 ha2 hm10 hls
              obtain ⟨m0, hm⟩ : ∃ m, m = (lsN l i).length := ⟨_, rfl⟩
              have hm' : m0 = ls.length := by rw [hm, ← hls, intsOf, List.length_map]
              have g2' : W.cell? ⟨ba, oa + i * 4 + 1, none⟩ = some (.slice As m0 cs) := by rw [hm']; exact g2
              rw [← hm'] at hm10
              rw [← hls] at ha1
              have HLS := Lib.hid (ha1.below (hb.mono (by omega : S ≤ z)))
              have HM := Lib.hid hm
              have HAE := Lib.hid hAe
              subst hAe
              have c0 := (HKW.out.below hb hSw).cell 0
              have hzW : z < W.heap.size := (ho.lt z rfl).2
              have hTW := hx.lt
              have HBb := Lib.hid hb
              have HXb := Lib.hid hx
              have HOb := Lib.hid ho
              have HIN := Lib.hid hin
              clear g1 g2 g3 g4 hgd hjs ha1 ha2 hls hm hm' hb hx ho hin hpre hpx hmem hX0 HB6 HX6 HO6 HP6
              simp only [List.setIfInBounds_toArray, List.set_cons_succ, List.set_cons_zero]
              gi_wp2_with fail
              clear g2' c0
              gi_loopw [108] (fun s108 wr => ∃ (u : Nat) (X : Nat → Int), u ≤ m0 ∧ s108 = .int .i64 u ∧ X = ((lsN l i).take u).foldl (relT (planOf l) i) X0 ∧ InT T X ∧ Held [z] W wr ∧ Own wr z 2 1 icell (some ⟨z, 0, none⟩) j (rowU j (fun y => fin - X y))) (fun s108 _ => m0 - (intOf s108).toNat)
              case atStart => exact ⟨0, X0, by omega, rfl, rfl, HIN.out, Held.refl _ _, HOb.out⟩
              case round =>
                clear HIN
                rename World => w7
                obtain ⟨u, X, hu, rfl, hX, hin, hh, ho⟩ := hrel
                have HX := Lib.hid hX
                have HIN := Lib.hid hin
                have HH := Lib.hid hh
                have HO := Lib.hid ho
                have hb7 : Below z W w7 := hh.to (by omega) (by simp)
                clear hX
                by_cases hltu : u < m0
                · have hul : u < (lsN l i).length := by rw [← HM.out]; exact hltu
                  have hfs := fold_take_succ (relT (planOf l) i) X0 (lsN l i) hul
                  rw [← HX.out] at hfs
                  obtain ⟨bl, ol, rfl, _, g0⟩ := (HLS.out.below (hb7.mono (by omega))).at1 (k := u) (by rw [intsOf, List.length_map]; exact hul)
                  rw [show (intsOf (lsN l i))[u]'(by rw [intsOf, List.length_map]; exact hul) = (((lsN l i)[u] : Nat) : Int) by simp [intsOf]] at g0
                  have hdm : (lsN l i)[u] ∈ (planOf l).A i := List.getElem_mem hul
                  obtain ⟨d, hd⟩ : ∃ d, d = (lsN l i)[u] := ⟨_, rfl⟩
                  rw [← hd] at hfs g0 hdm
                  have hdn : d < j := HPA.out i d hdm
                  have hdl : d < l.length := by rw [HL.out]; exact hdn
                  obtain ⟨ba', oa', hAe', d0, d1, d2, d3, d4⟩ := (HRW.out.below ((HBb.out.trans hb7).mono (by omega))).at4 (k := d) hdl
                  clear d0 d2 d3 d4
                  obtain ⟨rfl, rfl⟩ : ba' = ba ∧ oa' = oa := by
                    simp only [Option.some.injEq, Addr.mk.injEq] at hAe'
                    exact ⟨hAe'.1.symm, hAe'.2.1.symm⟩
                  have hgd : l[d] = jAt l d := (getD_at l d hdl _).symm
                  rw [hgd] at d1
                  obtain ⟨xi, _⟩ := rowU_own ho hij
                  obtain ⟨xd, fd⟩ := rowU_own ho hdn
                  have htd := HTM.out d
                  have hXi := hin i
                  have hXd := hin d
                  have hTi := HTB.out i hij
                  have hTd := HTB.out d hdn
                  have hw : IntKind.i64.wrap (fin - X i - (jAt l d).t) = fin - X i - (jAt l d).t := IntWalk.i64_in _ (by omega)
                  have HINN := Lib.hid (relT_in HT.out hin (fun k => (HTM.out k).1) hdm)
                  have HFS' := Lib.hid hfs
                  have c0 := (HKW.out.below (HBb.out.trans hb7) (by omega)).cell 0
                  have c14 := (Blk.held hh HXb.out (by simp; omega)).cell 0
                  have HREL : Hid (rowU j (fun y => fin - relT (planOf l) i X d y) = rowU j (upd (fun y => fin - X y) d (if fin - X i - (jAt l d).t < fin - X d then fin - X i - (jAt l d).t else fin - X d))) := Lib.hid (rowU_congr fun y hy => by
                    unfold relT upd
                    by_cases e : y = d
                    · rw [if_pos e, if_pos e]
                      show fin - max (X d) (X i + (jAt l d).t) = _
                      rw [Int.max_def]; split <;> split <;> omega
                    · rw [if_neg e, if_neg e])
                  obtain ⟨Xi, hXie⟩ : ∃ z, z = X i := ⟨_, rfl⟩
                  obtain ⟨Xd, hXde⟩ : ∃ z, z = X d := ⟨_, rfl⟩
                  obtain ⟨t, ht⟩ : ∃ z, z = (jAt l d).t := ⟨_, rfl⟩
                  rw [← hXie] at xi hw HREL
                  rw [← hXde] at xd HREL
                  rw [← ht] at d1 hw HREL
                  clear hb7 hh ho hin hfs hdm hd hdl hAe' hgd hXi hXd hTi hTd htd hXie hXde ht
                  gi_wp2_with fail
                  have e0 : w7.drew.cell? ⟨ba', oa' + d * 4, none⟩ = some (.int .i64 t) := d1
                  have e1 : w7.drew.cell? ⟨z, d, none⟩ = some (.int .i64 (fin - Xd)) := xd
                  have e2 : w7.drew.cell? ⟨z, i, none⟩ = some (.int .i64 (fin - Xi)) := xi
                  have e3 : w7.drew.frozen? ⟨z, d, none⟩ = false := fd
                  have e4 : w7.drew.cell? ⟨S, 0, none⟩ = some (.slice (some ⟨ba', oa', none⟩) j c) := c0
                  have e5 : w7.drew.cell? ⟨T14, 0, none⟩ = some (.slice (some ⟨z, 0, none⟩) j j) := c14
                  clear d1 xd xi fd c0 c14 g0
                  refine region_round 18 19 (fun w' => w' = w7.drew) (by kernel_rfl) rfl (by kernel_rfl) ?_
                  refine anyC_reads (by kernel_rfl) [0, 1, 2, 3, 4, 5, 6, 7, 8, 9, 10, 11, 12, 13, 14, 15] ?opz ?ohz 3 _ _ _ (by kernel_rfl) ?okz
                  case ohz => (simp only [List.filterMap_cons, List.filterMap_nil, List.getElem?_toArray, List.getElem?_cons_zero, List.getElem?_cons_succ]; try rfl)
                  repeat (
                    refine readC_step (v := ?_) rfl (fun w' hw' => ?_) ?_
                    rotate_left
                    focus (subst hw'; go_simp; try with_reducible rfl)
                    go_simp)
                  refine readC_nil ?_
                  refine anyC_one (i := 16) (by kernel_rfl) rfl rfl (.inr rfl) ?_
                  go_simp
                  refine anyC_one (i := 17) (by kernel_rfl) rfl rfl (.inr rfl) ?_
                  go_simp
                  refine anyC_one (i := 18) (by kernel_rfl) rfl rfl (.inr rfl) ?_
                  go_simp
                  refine anyC_end (by kernel_rfl) (.inl rfl) ?_
                  gi_wp2_with fail
                  refine ⟨⟨u + 1, _, by omega, by go_num, HFS'.out.symm, HINN.out, (HH.out.setCell (p := ⟨z, d, none⟩) (by simp) _).drew1, ?_⟩, by simp [intOf]; omega⟩
                  rw [HREL.out, ← rowU_upd]
                  exact (HO.out.put1 (f := fun x => .int .i64 x) (k := d) (by rw [rowU_len]; exact hdn)).drew
                · obtain rfl : u = m0 := by omega
                  have HX1 : Hid (X = rowT (planOf l) X0 i) := Lib.hid (by
                    rw [HX.out, List.take_of_length_le (by rw [HM.out]; exact Nat.le_refl _)]
                    rfl)
                  clear hb7 hh ho hin
                  gi_wp2_with fail
                  refine ⟨KeepsFrom.held HH.out (fun k hk o hob => ?_), ⟨HH.out.size, fun k hk => HH.out.block k (by omega) (by simp; omega)⟩, HBb.out.trans (HH.out.to (by omega) (by simp)), Blk.held HH.out HXb.out (by simp; omega), ?_⟩
                  · rw [List.mem_singleton] at hk
                    subst hk
                    exact HOb.out.isCells o hob
                  · exact ⟨by rw [HTN.out, ← HX1.out]; exact HO.out, Nat.lt_of_lt_of_le hPW HH.out.size⟩
            case done =>
              rintro D W hD ⟨hb, hx, ho, hPW⟩ hdef
              have HMK : Hid (Marks S [{ target := .collected D, args := #[] }] W) := Lib.hid ⟨[D], rfl, by simp, fun E hE => by
                rw [List.mem_singleton] at hE
                subst hE
                exact ⟨by omega, hdef⟩⟩
              have hts : (backL q j j).map Prod.snd = q.reverse := by
                rw [backL_snd HOLN.out j (Nat.le_refl _), List.take_of_length_le (by rw [List.length_reverse, HOLN.out]; exact Nat.le_refl _)]
              rw [hts] at ho
              have HO := Lib.hid ho
              have HB := Lib.hid hb
              have c14 := hx.cell 0
              clear hb hx ho hdef hts HB6 HX6 HO6 HP6
              go_wp2_with fail
              refine region_plain 99 7 (fun w' => w' = W.drew) (by kernel_rfl) rfl ?_
              refine anyC_reads (by kernel_rfl) [0, 1, 2, 3, 4, 5, 6] ?opy ?ohy 0 _ _ _ (by kernel_rfl) ?oky
              case ohy => (simp only [List.filterMap_cons, List.filterMap_nil, List.getElem?_toArray, List.getElem?_cons_zero, List.getElem?_cons_succ]; try rfl)
              repeat (
                refine readC_step (v := ?_) rfl (fun w' hw' => ?_) ?_
                rotate_left
                focus (subst hw'; go_simp; try with_reducible rfl)
                go_simp)
              refine readC_nil ?_
              refine anyC_end (by kernel_rfl) (.inr rfl) ?_
              have HMD : Hid (Marks S [{ target := .collected D, args := #[] }] W.drew) := HMK
              go_wp2_with fail
              refine bodyPostM_ret HMD.out fun w' hw' => ⟨.tuple #[.slice (some ⟨g, 0, none⟩) j j, .slice (some ⟨z, 0, none⟩) j j, .int .i64 fin, .int .i64 0], by simp [results, Try.results11, go_sem], ?_⟩
              refine ⟨some ⟨g, 0, none⟩, j, j, some ⟨z, 0, none⟩, j, j, fin, 0, rfl, ?_, fun h => absurd H0.out h, fun _ => ⟨fun h => absurd HOR.out h, fun _ E' T' hE' hT' => ⟨rfl, rfl, rfl, ?_, ?_, ?_⟩⟩⟩
              · rw [← HS.out]; exact ((HBW.out.trans (HB.out.mono (by omega))).drew).trans hw'.1
              · rw [hE', ← HEE.out, ← HQ.out]; exact HFIN.out
              · rw [hE', ← HEE.out]; exact ((HEO.out.below HB.out (by rw [← HZ.out]; exact Nat.le_refl _)).drew.shut hw').els
              · rw [hT', ← HQ.out]; exact (HO.out.drew.shut hw').els
  · obtain ⟨rfl, rfl⟩ := hno hor
    have H0 := Lib.hid h0
    have HOR := Lib.hid hor
    clear hyes hno h0 hor hbd
    go_wp2_with fail
    refine bodyPostM_ret (Marks.nil S v1) fun w' hw' => ⟨.tuple #[.slice none 0 0, .slice none 0 0, .int .i64 0, .int .i64 5], by simp [results, Try.results11, go_sem], ?_⟩
    exact ⟨none, 0, 0, none, 0, 0, 0, 5, rfl, by rw [← HS.out]; exact HB2.out.trans hw'.1, fun h => absurd H0.out h, fun _ => ⟨fun _ => ⟨rfl, rfl, rfl, rfl⟩, fun h => absurd h HOR.out⟩⟩
end Go.Proofs.Ytpinhmhempbmoaa
