/- When jobs may begin and must: the reference's walk. Conditions: the jobs have an order. -/
import Derived.Test.YtpinhmhempbmoaaTimesB
namespace Go.Proofs.Ytpinhmhempbmoaa
open Go.RowKit

theorem endOf_succ {p : Plan} (x : Nat → Int) (k : Nat) : endOf p x (List.range (k + 1)) = max (endOf p x (List.range k)) (x k + p.tm k) := by
  unfold endOf
  rw [List.range_succ, List.foldl_append]
  rfl
set_option maxRecDepth 100000 in
set_option maxHeartbeats 2000000 in
theorem ref_Times (n : Nat) (A : Option Addr) (c : Nat) (l : List Jb) (hl : l.length = n) (hg : GoodJs l) (ho : HasOrder l) (E T : Nat → Int) (hE : EarlyOk (planOf l) E) (hT : TailOk (planOf l) T) (w : World) (hr : Els w w.heap.size 4 Jb.cells A l) (ha : Afters w w.heap.size l) :
    Calls Try.prog 14 #[.slice A n c] w fun e w' => ∃ g A' c', e = .returned (.tuple #[.slice (some ⟨g, 0, none⟩) n n, .slice A' n c', .int .i64 (endOf (planOf l) E (List.range n))]) ∧ Below w.heap.size w w' ∧ Els w' w'.heap.size 1 icell (some ⟨g, 0, none⟩) (rowU n E) ∧ Els w' w'.heap.size 1 icell A' (rowU n (fun i => endOf (planOf l) E (List.range n) - T i)) := by
  have hp := plan_ok hg ho
  have hn10 := hg.n10
  rw [hl] at hn10
  have hsame : rowU n (earlyR (planOf l) n) = rowU n E := rowU_congr fun i hi => by
    have := earlyR_same hp hE i (show i < l.length by omega)
    rw [show (planOf l).n = n from hl] at this
    exact this
  have hEB : ∀ i, i < n → E i ≤ 10485760 := fun i hi => by
    have h1 := early_bound hp hE i (show i < (planOf l).n by show i < l.length; omega)
    have h2 : ((planOf l).n : Int) ≤ 10 := by show (l.length : Int) ≤ 10; omega
    omega
  have hTB : ∀ i, i < n → T i ≤ 10485760 := fun i hi => by
    have h1 := tail_bound hp hT i (show i < (planOf l).n by show i < l.length; omega)
    have h2 : ((planOf l).n : Int) ≤ 10 := by show (l.length : Int) ≤ 10; omega
    omega
  have HTP : Hid (∀ i, 0 ≤ T i) := Lib.hid (fun i => Int.le_trans (hp.tm i).1 (hT.pos i))
  have HEP := Lib.hid hE.pos
  have HEB := Lib.hid hEB
  have HTB := Lib.hid hTB
  have hend : ∀ k, k ≤ n → 0 ≤ endOf (planOf l) E (List.range k) ∧ endOf (planOf l) E (List.range k) ≤ 11534336 := fun k hk =>
    ⟨endOf_ge0 _ 0, endOf_le _ 0 (by omega) fun i hi => by
      have h1 := hEB i (by have := List.mem_range.1 hi; omega)
      have h2 := (hp.tm i).2
      omega⟩
  have HEND := Lib.hid hend
  have HTM : Hid (∀ i, 0 ≤ (jAt l i).t ∧ (jAt l i).t ≤ 1048576) := Lib.hid hp.tm
  have HEA := Lib.hid (ref_Early n A c l hl hg ho E hE w hr ha)
  have HTA := Lib.hid (ref_tail n A c l w.heap.size hl hg ho T hT)
  have HR := Lib.hid hr
  have HA := Lib.hid ha
  have HL := Lib.hid hl
  have HSAME := Lib.hid hsame
  have hF0 : endOf (planOf l) E (List.range 0) = 0 := rfl
  have hFS := fun k => endOf_succ (p := planOf l) E k
  obtain ⟨F, hF⟩ : ∃ F, F = fun k => endOf (planOf l) E (List.range k) := ⟨_, rfl⟩
  rw [show endOf (planOf l) E (List.range 0) = F 0 by rw [hF]] at hF0
  have HFS : Hid (∀ k, F (k + 1) = max (F k) (E k + (jAt l k).t)) := Lib.hid (fun k => by rw [hF]; exact hFS k)
  have HFB : Hid (∀ k, k ≤ n → 0 ≤ F k ∧ F k ≤ 11534336) := Lib.hid (fun k hk => by rw [hF]; exact hend k hk)
  rw [show endOf (planOf l) E (List.range n) = F n by rw [hF]]
  clear hr ha hl hg ho hE hT hp hend hEB hTB hsame HEND hFS hF
  go_enter Try.func14, Try.ntmps14
  go_wp2_with fail
  refine HEA.out.mono ?_
  clear HEA
  rintro e w1 ⟨g, rfl, hb1, ho1⟩
  rw [HSAME.out] at ho1
  have HB1 := Lib.hid hb1
  have HO1 := Lib.hid ho1
  clear hb1 ho1
  go_wp2_with fail
  go_loopw [7, 5] (fun s7 s5 wr => ∃ k m : Nat, k ≤ n ∧ s7 = .int .i64 k ∧ s5 = .int .i64 (F k) ∧ wr = w1.drewN m) (fun s7 _ _ => n - (intOf s7).toNat)
  case atStart => exact ⟨0, 0, by omega, rfl, by rw [hF0], rfl⟩
  case round =>
    obtain ⟨k, m, hk, rfl, rfl, rfl⟩ := hrel
    by_cases hlt : k < n
    · have hkl : k < l.length := by rw [HL.out]; exact hlt
      obtain ⟨ba, oa, rfl, _, d1, d2, d3, d4⟩ := (HR.out.below HB1.out).at4 (k := k) hkl
      have hgd : l[k] = jAt l k := (getD_at l k hkl _).symm
      rw [hgd] at d1
      obtain ⟨xe, _⟩ := rowU_own HO1.out hlt
      have htm := HTM.out k
      have he0 := HEP.out k
      have he1 := HEB.out k hlt
      have hfk := HFB.out k hk
      have hfs := HFS.out k
      have hw := wrap_small (x := E k + (jAt l k).t) (by omega) (by omega)
      obtain ⟨t, ht⟩ : ∃ z, z = (jAt l k).t := ⟨_, rfl⟩
      obtain ⟨ek, hek⟩ : ∃ z, z = E k := ⟨_, rfl⟩
      obtain ⟨fk, hfke⟩ : ∃ z, z = F k := ⟨_, rfl⟩
      rw [← ht] at d1 hw hfs
      rw [← hek] at xe hw hfs
      rw [← hfke] at hfs ⊢
      have HFK := Lib.hid hfs
      clear d2 d3 d4 hgd htm he0 he1 hfk hfs ht hek hfke
      by_cases hgt : fk < ek + t
      · have hdd : decide (fk < ek + t) = true := decide_eq_true hgt
        have HV : Hid (F (k + 1) = ek + t) := Lib.hid (by rw [HFK.out, Int.max_eq_right (by omega)])
        clear hgt
        go_wp2_with fail
        go_quiet (fail)
        go_wp2_with fail
        go_quiet (fail)
        go_wp2_with fail
        refine ⟨⟨k + 1, _, by omega, by go_num, by rw [HV.out], rfl⟩, by simp [intOf]; omega⟩
      · have hdd : decide (fk < ek + t) = false := decide_eq_false hgt
        have HV : Hid (F (k + 1) = fk) := Lib.hid (by rw [HFK.out, Int.max_eq_left (by omega)])
        clear hgt
        go_wp2_with fail
        go_quiet (fail)
        go_wp2_with fail
        refine ⟨⟨k + 1, m + nq, by omega, by go_num, by rw [HV.out], by first | rfl | rw [World.drewN_drewN]⟩, by simp [intOf]; omega⟩
    · obtain rfl : k = n := by omega
      have HB2 := Lib.hid (below_drewN HB1.out m)
      have HO2 := Lib.hid (HO1.out.drewN m)
      obtain ⟨w2, hw2⟩ : ∃ w2, w2 = w1.drewN m := ⟨_, rfl⟩
      rw [← hw2] at HB2 HO2 ⊢
      obtain ⟨fn, hfn⟩ : ∃ z, z = F k := ⟨_, rfl⟩
      have hfb := HFB.out k hk
      rw [← hfn] at hfb ⊢
      have HFN := Lib.hid hfn
      clear hw2 HO1 HB1 hfn
      go_wp2_with fail
      go_loopw [9, 8] (fun s9 s8 wr => ∃ (i : Nat) (A8 : Option Addr) (c8 : Nat), i ≤ k ∧ s9 = .int .i64 i ∧ s8 = .slice A8 i c8 ∧ Below w2.heap.size w2 wr ∧ Own wr w2.heap.size 2 1 icell A8 c8 (rowU i (fun i => fn - T i))) (fun s9 _ _ => k - (intOf s9).toNat)
      case atStart => exact ⟨0, none, 0, by omega, rfl, rfl, Below.refl _ _, Own.nil _ _ _ (fun _ => rfl)⟩
      case round =>
        rename World => wr
        obtain ⟨i, A8, c8, hi, rfl, rfl, hb, ho⟩ := hrel
        have HB := Lib.hid hb
        have HO := Lib.hid ho
        have hsz := hb.size
        by_cases hlti : i < k
        · have HTI := Lib.hid (HTA.out i hlti wr ((HR.out.below HB2.out).below (hb.mono HB2.out.size)) ((HA.out.below HB2.out).below (hb.mono HB2.out.size)))
          have ht0 := HTP.out i
          have ht1 := HTB.out i hlti
          have hw : IntKind.i64.wrap (fn - T i) = fn - T i := IntWalk.i64_in _ (by omega)
          have hrs := rowU_succ i (fun i => fn - T i)
          obtain ⟨ti, hti⟩ : ∃ z, z = T i := ⟨_, rfl⟩
          rw [← hti] at HTI hw hrs ht0 ht1
          have HRS := Lib.hid hrs
          clear hb ho hrs hti
          go_wp2_with fail
          refine HTI.out.mono ?_
          clear HTI
          rintro e w' ⟨rfl, rfl⟩
          go_wp2_with (at_builtin; go_must (
            refine wpList_push rfl _ _ _ rfl w2.heap.size 1 2 (.int .i64 0) 8 Try.underlying23 (by kernel_rfl) rfl (by omega) icell w' #[.int .i64 (fn - ti)] A8 i c8 (rowU i (fun i => fn - T i)) (rowU_len _ _) rfl HO.out 1 [fn - ti] rfl rfl w'.heap.size rfl rfl (by simp [Value.oneCell']) (by unfold maxLen; omega) (by omega) (by omega) ?_
            intro A9 c9 w4 hown4 hgrow4 hloc4))
          refine ⟨⟨i + 1, A9, c9, by omega, by go_num, rfl, (HB.out.alloc hsz _).grown hgrow4 (by rw [size_alloc']; omega) (fun g hg => (HO.out.lt g hg).1), by rw [HRS.out]; exact hown4⟩, by simp [intOf]; omega⟩
        · obtain rfl : i = k := by omega
          clear hb ho
          go_wp2_with fail
          refine bodyPost_ret (v := .tuple #[.slice (some ⟨g, 0, none⟩) i i, .slice A8 i c8, .int .i64 fn]) (by simp [results, Try.results14, go_sem]) rfl ?_
          rw [← HFN.out]
          exact ⟨g, A8, c8, rfl, HB2.out.trans (HB.out.mono HB2.out.size), (HO2.out.below HB.out (Nat.le_refl _)).els, HO.out.els⟩
end Go.Proofs.Ytpinhmhempbmoaa
