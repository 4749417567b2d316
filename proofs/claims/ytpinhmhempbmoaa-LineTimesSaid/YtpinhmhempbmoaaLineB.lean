/- Jobs: the reference's check; the program's order. Conditions: the jobs and their lists read as lists. -/
import Derived.Test.YtpinhmhempbmoaaLineA
import Derived.Test.YtpinhmhempbmoaaKeys
namespace Go.Proofs.Ytpinhmhempbmoaa
open Go.RowKit

set_option maxRecDepth 100000 in
set_option maxHeartbeats 1000000 in
theorem ref_JobsCheck (l : List Jb) (A : Option Addr) (n c : Nat) (w : World) (hl : l.length = n) (hn : n ≤ maxLen) (hr : Els w w.heap.size 4 Jb.cells A l) (ha : Afters w w.heap.size l) :
    Calls Try.prog 12 #[.slice A n c] w fun e w' => e = .returned (.int .i64 (jobsCheck l)) ∧ Below w.heap.size w w' := by
  have HN : Hid (jobsCheck l = if 10 < n then 1 else if l.any longJ then 1 else jobsFrom n l) := by subst hl; rfl
  have HL := Lib.hid hl
  have HR := Lib.hid hr
  have HA := Lib.hid ha
  unfold maxLen at hn
  clear hl hr ha
  by_cases h10 : 10 < n
  · have HM := Lib.hid (HN.out.trans (if_pos h10))
    go_enter Try.func12, Try.ntmps12
    go_wp2_with fail
    go_ret
    exact ⟨ret_i64 (by rw [HM.out]), Below.refl _ _⟩
  have HM := Lib.hid (HN.out.trans (if_neg h10))
  clear HN
  go_enter Try.func12, Try.ntmps12
  go_wp2_with fail
  go_loopw [14] (fun i wr => ∃ k : Nat, k ≤ n ∧ i = .int .i64 k ∧ Below w.heap.size w wr ∧ (l.take k).any longJ = false) (fun i _ => n - (intOf i).toNat)
  case atStart => exact ⟨0, by omega, rfl, Below.refl _ _, rfl⟩
  case round =>
    rename World => wr
    obtain ⟨k, hk, rfl, hb, hno⟩ := hrel
    have hsz := hb.size
    have HB := Lib.hid hb
    have HNO := Lib.hid hno
    clear hb hno
    by_cases hlt : k < n
    · have hkl : k < l.length := by rw [HL.out]; exact hlt
      obtain ⟨b, off, rfl, _, g0, g1, g2, g3⟩ := (HR.out.below HB.out).at4 (f := fun a : Jb => .int .i64 a.t) (g := fun a => a.s.val) (p := fun a => .int .i64 a.x) (q := fun a => .int .i64 a.y) hkl
      have HS := Lib.hid (any_take_succ longJ l k hkl)
      have HG := Lib.hid (fun h => any_of_get (p := longJ) hkl h)
      have hmem := List.getElem_mem hkl
      obtain ⟨j, hj⟩ : ∃ j, j = l[k] := ⟨_, rfl⟩
      have HJ := Lib.hid hj
      rw [← hj] at g0 g1 g2 g3 hmem
      obtain ⟨ha1, ha2⟩ := HA.out j hmem
      clear hj hmem
      obtain ⟨t, ⟨As, cs, ls⟩, x, y⟩ := j
      obtain ⟨m, hm⟩ : ∃ m, m = ls.length := ⟨_, rfl⟩
      have g1' : wr.cell? ⟨b, off + k * 4 + 1, none⟩ = some (.slice As m cs) := by rw [hm]; exact g1
      simp only at g0 g2 g3 ha2
      rw [← hm] at ha2
      unfold maxLen at ha2
      have HLJ : Hid (longJ ⟨t, ⟨As, cs, ls⟩, x, y⟩ = decide (10 < m)) := by
        show longJ ⟨t, ⟨As, cs, ls⟩, x, y⟩ = _
        unfold longJ
        rw [hm]
      clear g1 ha1 hm
      by_cases q1 : 10 < m
      · go_wp2_with fail
        go_ret
        exact ⟨ret_i64 (by rw [HM.out, if_pos (HG.out (by rw [← HJ.out, HLJ.out]; simpa using q1))]), HB.out.alloc hsz _⟩
      · go_wp2_with fail
        go_roundw
        case rel => exact ⟨k + 1, by omega, by go_num, HB.out.alloc hsz _, by rw [HS.out, HNO.out, ← HJ.out, HLJ.out]; simpa using q1⟩
        case measure => simp [intOf]; omega
    · obtain rfl : k = n := by omega
      have hall : l.take k = l := List.take_of_length_le (by rw [HL.out]; omega)
      have hno := HNO.out
      rw [hall] at hno
      have HM2 := Lib.hid (HM.out.trans (if_neg (by rw [hno]; simp)))
      clear hall hno HM HNO
      go_wp2_with fail
      go_loopw [25] (fun i wr => ∃ q : Nat, q ≤ k ∧ i = .int .i64 q ∧ Below w.heap.size w wr ∧ jobsFrom k (l.drop q) = jobsFrom k l) (fun i _ => k - (intOf i).toNat)
      case atStart => exact ⟨0, by omega, rfl, HB.out, rfl⟩
      case round =>
        clear HB hsz
        rename World => wr
        obtain ⟨q, hq, rfl, hb, hfrom⟩ := hrel
        have hsz := hb.size
        have HB := Lib.hid hb
        have HF := Lib.hid hfrom
        clear hb hfrom
        by_cases hlt : q < k
        · have hkl : q < l.length := by rw [HL.out]; exact hlt
          obtain ⟨b, off, rfl, _, g0, g1, g2, g3⟩ := (HR.out.below HB.out).at4 (f := fun a : Jb => .int .i64 a.t) (g := fun a => a.s.val) (p := fun a => .int .i64 a.x) (q := fun a => .int .i64 a.y) hkl
          have hmem := List.getElem_mem hkl
          obtain ⟨j, hj⟩ : ∃ j, j = l[q] := ⟨_, rfl⟩
          have HR2 := Lib.hid (jobs_round hkl HF.out j hj)
          rw [← hj] at g0 g1 g2 g3 hmem
          obtain ⟨ha1, ha2⟩ := HA.out j hmem
          clear hj hmem
          obtain ⟨t, ⟨As, cs, ls⟩, x, y⟩ := j
          obtain ⟨m, hm⟩ : ∃ m, m = ls.length := ⟨_, rfl⟩
          have g1' : wr.cell? ⟨b, off + q * 4 + 1, none⟩ = some (.slice As m cs) := by rw [hm]; exact g1
          simp only at g0 g2 g3 ha1 ha2
          rw [← hm] at ha2
          unfold maxLen at ha2
          have HML := Lib.hid hm
          have hbE := HB.out.alloc hsz (.cells #[.int .i64 t, .slice As m cs, .int .i64 x, .int .i64 y] 75)
          have HBE := Lib.hid hbE
          have HLS := Lib.hid (ha1.below hbE)
          clear g1 ha1 hm hbE
          by_cases q1 : t < 0
          · have HT : Hid (tBad t = true) := by show tBad t = true; simp [tBad, q1]
            go_wp2_with fail
            go_ret
            exact ⟨ret_i64 (by rw [HM2.out, HR2.out, if_pos HT.out]), HBE.out⟩
          by_cases q2 : 1048576 < t
          · have HT : Hid (tBad t = true) := by show tBad t = true; simp [tBad, q2]
            go_wp2_with fail
            go_ret
            exact ⟨ret_i64 (by rw [HM2.out, HR2.out, if_pos HT.out]), HBE.out⟩
          have HT : Hid (tBad t = false) := by show tBad t = false; simp [tBad]; omega
          have HR3 := Lib.hid (HR2.out.trans (if_neg (by rw [HT.out]; simp)))
          go_wp2_with fail
          go_loop [40] (fun i => ∃ u : Nat, u ≤ m ∧ i = .int .i64 u ∧ (ls.take u).any (kBad k) = false) (fun i => m - (intOf i).toNat)
          case atStart => exact ⟨0, by omega, rfl, rfl⟩
          case round =>
            obtain ⟨u, hu, rfl, hno⟩ := hrel
            have HNO := Lib.hid hno
            clear hno
            by_cases hlu : u < m
            · have hul : u < ls.length := by rw [← HML.out]; exact hlu
              obtain ⟨b2, off2, rfl, hbb2, f0⟩ := HLS.out.at1 hul
              have HS := Lib.hid (any_take_succ (kBad k) ls u hul)
              have HG := Lib.hid (fun h => any_of_get (p := kBad k) hul h)
              obtain ⟨z, hz⟩ : ∃ z, z = ls[u] := ⟨_, rfl⟩
              rw [← hz] at f0
              have HZ := Lib.hid hz
              clear hz
              by_cases r1 : z < 0
              · have HKB : Hid (kBad k z = true) := by show kBad k z = true; simp [kBad, r1]
                go_wp2_with fail
                go_ret
                exact ⟨ret_i64 (by rw [HM2.out, HR3.out, if_pos (HG.out (by rw [← HZ.out]; exact HKB.out))]), HBE.out⟩
              by_cases r2 : (k : Int) ≤ z
              · have HKB : Hid (kBad k z = true) := by show kBad k z = true; simp [kBad, r2]
                go_wp2_with fail
                go_ret
                exact ⟨ret_i64 (by rw [HM2.out, HR3.out, if_pos (HG.out (by rw [← HZ.out]; exact HKB.out))]), HBE.out⟩
              have HKB : Hid (kBad k z = false) := by show kBad k z = false; simp [kBad]; omega
              go_wp2_with fail
              go_round
              case rel => exact ⟨u + 1, by omega, by go_num, by rw [HS.out, HNO.out, ← HZ.out, HKB.out]; rfl⟩
              case measure => simp [intOf]; omega
            · obtain rfl : u = m := by omega
              have hall : ls.take u = ls := List.take_of_length_le (by rw [← HML.out]; exact Nat.le_refl _)
              have hno := HNO.out
              rw [hall] at hno
              have HNO2 := Lib.hid hno
              clear hall hno
              go_wp2_with fail
              refine ⟨⟨q + 1, by omega, by go_num, HBE.out, by rw [HR3.out, if_neg (by rw [HNO2.out]; simp)]⟩, by simp [intOf]; omega⟩
        · obtain rfl : q = k := by omega
          have hd : l.drop q = [] := List.drop_eq_nil_of_le (by rw [HL.out]; omega)
          have hF := HF.out
          rw [hd] at hF
          have HF2 := Lib.hid hF
          clear hd hF
          go_wp2_with fail
          go_ret
          exact ⟨ret_i64 (by rw [HM2.out, ← HF2.out]; rfl), HB.out⟩

/-- What the map of those done holds. -/
def DoneIs (L : List (Int × Value)) (gone : List Int) : Prop := ∀ x, getK L x = if hasB gone x then some (.int .i64 1) else none
theorem done_put {L : List (Int × Value)} {gone : List Int} {a : Int} (h : DoneIs L gone) : DoneIs (putK L a (.int .i64 1)) (gone ++ [a]) := by
  intro x
  rw [hasB_snoc]
  by_cases hx : x = a
  · subst hx
    rw [getK_put_same, if_pos (by simp)]
  · rw [getK_put_other _ _ hx, h x]
    have : (x == a) = false := by simpa using hx
    rw [this, Bool.or_false]
abbrev intV (n : Int) : Value := .int .i64 n
theorem ent_next1 : Ent Try.prog 91 := ent_of Try.func91 (by kernel_rfl) rfl
theorem line_next1 (k : Int) (r S : Nat) (L : List (Int × Value)) (gone : List Int) (w : World) (h : Blk w S 113 #[.map (some r)]) (hm : MapB w r intV L) (hd : DoneIs L gone) :
    Calls Try.prog 91 #[.int .i64 k, .pointer (some ⟨S, 0, none⟩)] w fun e w' => e = .returned (.bool (!hasB gone k)) ∧ w = w' := by
  have c0 := h.cell 0
  have hlook := run_look (P := Try.prog) (keyL_int Try.underlying3) Try.underlying113 (z := .int .i64 0) (fun u => by kernel_rfl) hm k false
  rw [hd k] at hlook
  clear h hm hd
  rcases hb : hasB gone k with _ | _
  · rw [hb] at hlook
    simp only [Bool.false_eq_true, if_false, Option.getD_none] at hlook
    have HB := Lib.hid hb
    clear hb
    go_enter Try.func91, Try.ntmps91
    go_wp2_with fail
    go_ret
    exact ⟨rfl, rfl⟩
  · rw [hb] at hlook
    simp only [if_true, Option.getD_some, Bool.false_eq_true, if_false] at hlook
    have HB := Lib.hid hb
    clear hb
    go_enter Try.func91, Try.ntmps91
    go_wp2_with fail
    go_ret
    exact ⟨rfl, rfl⟩

theorem any_not_dep (l : List Jb) (gone : List Int) (i : Nat) : (aft l i).any (fun k => !hasB gone k) = !depB l gone i := by
  unfold depB
  rw [List.any_eq_not_all_not]
  congr 1
  congr 1
  funext k
  simp
set_option maxRecDepth 100000 in
set_option maxHeartbeats 1000000 in
theorem line_next (l : List Jb) (gone : List Int) (L : List (Int × Value)) (r f : Nat) (A : Option Addr) (n c : Nat) (w : World) (hl : l.length = n) (h10 : n ≤ 10) (hf : f ≤ 10) (hr : Els w w.heap.size 4 Jb.cells A l) (ha : Afters w w.heap.size l) (hm : MapB w r intV L) (hd : DoneIs L gone) :
    Calls Try.prog 69 #[.slice A n c, .map (some r), .int .i64 f] w fun e w' => e = .returned (.int .i64 (nf (depB l gone) n f)) ∧ Below w.heap.size w w' := by
  have HL := Lib.hid hl
  have HR := Lib.hid hr
  have HA := Lib.hid ha
  have HM := Lib.hid (hm.alloc (.cells #[.map (some r)] 113))
  have HD := Lib.hid hd
  have hb0 := (Below.refl w.heap.size w).alloc (Nat.le_refl _) (.cells #[.map (some r)] 113)
  have hB0 := Blk.new w 113 #[.map (some r)]
  have HB0 := Lib.hid hb0
  have HK0 := Lib.hid hB0
  have hrlt := hm.lt
  clear hl hr ha hm hd hb0 hB0
  go_enter Try.func69, Try.ntmps69
  go_wp2_with fail
  go_loopw [7] (fun i wr => ∃ k : Nat, k ≤ 10 ∧ i = .int .i64 k ∧ Below w.heap.size w wr ∧ Blk wr w.heap.size 113 #[.map (some r)] ∧ MapB wr r intV L ∧ nf (depB l gone) n k = nf (depB l gone) n f) (fun i _ => 11 - (intOf i).toNat)
  case atStart => exact ⟨f, hf, rfl, HB0.out, HK0.out, HM.out, rfl⟩
  case round =>
    clear HB0 HK0 HM
    rename World => wr
    obtain ⟨k, hk, rfl, hb, hblk, hmap, hnf⟩ := hrel
    have hsz := hb.size
    have HB := Lib.hid hb
    have HK := Lib.hid hblk
    have HM := Lib.hid hmap
    have HNF := Lib.hid hnf
    clear hb hblk hmap hnf
    by_cases hlt : k < n
    · have hkl : k < l.length := by rw [HL.out]; exact hlt
      obtain ⟨b, off, rfl, _, g0, g1, g2, g3⟩ := (HR.out.below HB.out).at4 (f := fun a : Jb => .int .i64 a.t) (g := fun a => a.s.val) (p := fun a => .int .i64 a.x) (q := fun a => .int .i64 a.y) hkl
      have hmem := List.getElem_mem hkl
      have hdep := any_not_dep l gone k
      rw [aft_at l hkl] at hdep
      obtain ⟨j, hj⟩ : ∃ j, j = l[k] := ⟨_, rfl⟩
      rw [← hj] at g0 g1 g2 g3 hmem hdep
      obtain ⟨ha1, ha2⟩ := HA.out j hmem
      clear hj hmem
      obtain ⟨t, ⟨As, cs, ls⟩, x, y⟩ := j
      obtain ⟨m, hm⟩ : ∃ m, m = ls.length := ⟨_, rfl⟩
      have g1' : wr.cell? ⟨b, off + k * 4 + 1, none⟩ = some (.slice As m cs) := by rw [hm]; exact g1
      simp only at g0 g2 g3 ha1 ha2 hdep
      rw [← hm] at ha2
      have hCF := ContainsFunc_ints 91 ent_next1 #[.pointer (some ⟨w.heap.size, 0, none⟩)] (fun k => !hasB gone k) As m cs ls wr hm.symm ha2 ((ha1.below HB.out).more hsz)
        (fun a wx _ hb2 => by
          simpa using (line_next1 a r w.heap.size L gone wx (HK.out.below hb2 HK.out.lt) (HM.out.below hb2 HM.out.lt) HD.out).mono fun e w' ⟨he, hw⟩ => ⟨he, by subst hw; exact Below.refl _ _⟩)
      rw [hdep] at hCF
      have HCF := Lib.hid hCF
      clear g0 g2 g3 g1 ha1 hm hCF hdep
      rcases hp : depB l gone k with _ | _
      · have HNO := Lib.hid (nf_no (depB l gone) hlt hp)
        have HP := Lib.hid hp
        clear hp
        go_wp2_with fail
        refine HCF.out.mono ?_
        clear HCF
        rintro e w' ⟨rfl, hb'⟩
        rw [HP.out]
        have HB2 := Lib.hid (HB.out.trans (hb'.mono hsz))
        have HK2 := Lib.hid (HK.out.below hb' HK.out.lt)
        have HM2 := Lib.hid (HM.out.below hb' HM.out.lt)
        clear hb'
        go_wp2_with fail
        go_roundw
        case rel => exact ⟨k + 1, by omega, by go_num, HB2.out, HK2.out, HM2.out, by rw [← HNO.out]; exact HNF.out⟩
        case measure => simp [intOf]; omega
      · have HYES := Lib.hid (nf_yes (depB l gone) hlt hp)
        have HP := Lib.hid hp
        clear hp
        go_wp2_with fail
        refine HCF.out.mono ?_
        clear HCF
        rintro e w' ⟨rfl, hb'⟩
        rw [HP.out]
        have HB2 := Lib.hid (HB.out.trans (hb'.mono hsz))
        clear hb'
        go_wp2_with fail
        go_ret
        exact ⟨ret_i64 (by rw [← HNF.out, HYES.out]), HB2.out⟩
    · have HEND := Lib.hid (nf_end (depB l gone) (show n ≤ k by omega))
      go_wp2_with fail
      go_ret
      exact ⟨ret_i64 (by rw [← HNF.out, HEND.out]), HB.out⟩
end Go.Proofs.Ytpinhmhempbmoaa
