/- Two sides: the reference's walk; the statement SidesTells. Conditions: the edges read as a list; the table. -/
import Derived.Test.YtnpcbbdfpbnakaaDoorSidesA
import Derived.Test.YtnpcbbdfpbnakaaDoorPartsB
import Derived.Test.YtnpcbbdfpbnakaaDoorGraphB
import Derived.Test.YtnpcbbdfpbnakaaDoorEq
import Derived.Test.YtnpcbbdfpbnakaaDoorOpen
import Derived.BigQuiet
namespace Go.Proofs.YtnpcbbdfpbnakaaDoor
open Go.RowKit

theorem clash_succ (l : List Ed) (L : List Int) (k : Nat) (hk : k < l.length) : clash (l.take (k + 1)) L = (clash (l.take k) L || flatE L l[k]) := any_take_succ _ _ _ hk
set_option maxRecDepth 100000 in
set_option maxHeartbeats 1000000 in
theorem ref_Sides (N : Nat) (A : Option Addr) (n c : Nat) (l : List Ed) (w : World) (hl : l.length = n) (hg : GoodG N l) (hr : Els w w.heap.size 3 Ed.cells A l) :
    Calls Tryd.prog 19 #[.agg #[.int .i64 N, .slice A n c]] w fun e w' => ∃ (A2 : Option Addr) (k cap : Nat) (b : Bool) (L : List Int), e = .returned (.tuple #[.slice A2 k cap, .bool b]) ∧ Below w.heap.size w w' ∧ L.length = N ∧ SidesL l L ∧
      (clash l L = true → b = false ∧ k = 0) ∧ (clash l L = false → b = true ∧ k = N ∧ Els w' w'.heap.size 1 icell A2 L) := by
  have hb0 := (Below.refl w.heap.size w).alloc (Nat.le_refl _) (.cells #[.int .i64 N, .slice A n c] 31)
  have hB0 := Blk.new w 31 #[.int .i64 N, .slice A n c]
  have HD := Lib.hid (ref_Dist N A n c l _ hl hg ((hr.below hb0).more hb0.size))
  have HB0 := Lib.hid hb0
  have HK0 := Lib.hid hB0
  have HL := Lib.hid hl
  have HG := Lib.hid hg
  have HR := Lib.hid hr
  have c0 := hB0.cell 0
  have c1 := hB0.cell 1
  have hN := hg.n10
  have hn45 : n ≤ 45 := by have := hg.m45; omega
  clear hr hb0 hB0 hl hg
  go_enter Tryd.func19, Tryd.ntmps19
  go_wp2_with fail
  refine HD.out.mono ?_
  clear HD c0 c1
  rintro e v1 ⟨A3, c3, P, M, rfl, hb1, hP, hm, hd⟩
  have hb1' := HB0.out.trans (hb1.mono (by rw [size_alloc']; omega))
  have hk1 := HK0.out.below hb1 (by rw [size_alloc']; omega)
  have HPA := Lib.hid (ref_Parts N A n c l v1 HL.out HG.out ((HR.out.below hb1').more hb1'.size))
  have c0 := hk1.cell 0
  have c1 := hk1.cell 1
  have hlt1 := hk1.lt
  have HB1 := Lib.hid hb1'
  have HK1 := Lib.hid hk1
  have HP := Lib.hid hP
  have HM := Lib.hid hm
  have HDI := Lib.hid hd
  clear hb1 hb1' hk1 hP hm hd HB0 HK0
  go_wp2_with fail
  refine HPA.out.mono ?_
  clear HPA c0 c1
  rintro e v2 ⟨A4, c4, L4, rfl, hb2, hL4, hpl, hels⟩
  have hz1 := HB1.out.size
  have hz2 := hb2.size
  have HB2 := Lib.hid (HB1.out.trans (hb2.mono hz1))
  have HK2 := Lib.hid (HK1.out.below hb2 hlt1)
  have HM2 := Lib.hid (HM.out.below hb2)
  have HL4 := Lib.hid hL4
  have HPL := Lib.hid hpl
  have HE := Lib.hid hels
  clear hb2 hL4 hpl hels HB1 HK1 HM
  go_wp2_with fail
  go_loopw [7, 6] (fun s7 s6 wr => ∃ (k : Nat) (A2 : Option Addr) (c2 : Nat) (L : List Int), k ≤ N ∧ s7 = .int .i64 k ∧ s6 = .slice A2 k c2 ∧ L.length = k ∧ SidesL l L ∧ Below v2.heap.size v2 wr ∧ Own wr v2.heap.size 3 1 icell A2 c2 L) (fun s7 _ _ => N - (intOf s7).toNat)
  case atStart => exact ⟨0, none, 0, [], by omega, rfl, rfl, rfl, SidesL.nil _, Below.refl _ _, Own.nil _ _ _ (fun _ => rfl)⟩
  case round =>
    rename World => wr
    obtain ⟨k, A2, c2, L, hk, rfl, rfl, hLk, hsl, hb, ho⟩ := hrel
    have hs := hb.size
    have hk3 := HK2.out.below hb HK2.out.lt
    have c0 := hk3.cell 0
    have HO := Lib.hid ho
    have HB := Lib.hid hb
    have HK3 := Lib.hid hk3
    have HLK := Lib.hid hLk
    have HSL := Lib.hid hsl
    clear ho hb hLk hsl hk3
    by_cases hlt : k < N
    · obtain ⟨q, hq, hip⟩ := HPL.out k (by rw [HL4.out]; exact hlt)
      have hqk := (show q ≤ k from by rcases Nat.lt_or_ge k q with e | e; exact (hip.2 k e ⟨0, .start⟩).elim; exact e)
      obtain ⟨b4, off4, rfl, _, g4⟩ := (HE.out.below HB.out).at1 (k := k) (by rw [HL4.out]; exact hlt)
      rw [← getD_at L4 k (by rw [HL4.out]; exact hlt) 0, hq] at g4
      obtain ⟨g, rfl, _, _, _, e1, _, _, e2⟩ := (HM2.out.below HB.out).at_ (i := q) (by rw [HP.out]; omega)
      obtain ⟨e2, _⟩ := e2 k hlt
      have hdq := HDI.out q k (by omega) hlt
      obtain ⟨pp, hpp⟩ : ∃ pp, pp = pAt P q := ⟨_, rfl⟩
      obtain ⟨x, hx⟩ : ∃ x, x = M q k := ⟨_, rfl⟩
      rw [← hpp] at e1 e2
      rw [← hx] at e2 hdq
      have HSI : Hid (SideIs l L.length (x.tmod 2)) := Lib.hid (by rw [HLK.out]; exact ⟨q, x, hip, hdq, rfl⟩)
      have hqN : q < N := by omega
      clear hq hip hdq hpp hx
      go_wp2_with (at_builtin; go_must (
        refine wpList_push rfl _ _ _ rfl v2.heap.size 1 3 (.int .i64 0) 8 Tryd.underlying32 (by kernel_rfl) rfl (by omega) icell wr #[.int .i64 (x.tmod 2)] A2 k c2 L HLK.out rfl HO.out 1 [(x.tmod 2 : Int)] rfl rfl _ rfl rfl (by simp [Value.oneCell']) (by unfold maxLen; omega) (by omega) hs ?_
        intro A5 cap5 w5 hown5 hgrow5 hloc5))
      go_roundw
      case rel => exact ⟨k + 1, A5, cap5, L ++ [(x.tmod 2 : Int)], by omega, by go_num, rfl, by rw [List.length_append, HLK.out]; rfl, HSL.out.snoc HSI.out, (HB.out.alloc hs _).grown hgrow5 (by rw [size_alloc']; exact Nat.le_succ_of_le hs) (fun g hg => (HO.out.lt g hg).1), hown5⟩
      case measure => simp [intOf]; omega
    · obtain rfl : k = N := by omega
      have c1 := HK3.out.cell 1
      have HB3 := Lib.hid (HB2.out.trans (HB.out.mono (show w.heap.size ≤ v2.heap.size by omega)))
      have HE3 := Lib.hid HO.out.els
      have hz3 := HB3.out.size
      have HR3 := Lib.hid (HR.out.below HB3.out)
      clear HM2 HE HPL HDI HB
      go_wp2_with fail
      go_loopw [37] (fun s37 w4 => ∃ j : Nat, j ≤ n ∧ s37 = .int .i64 j ∧ Below wr.heap.size wr w4 ∧ clash (l.take j) L = false) (fun s37 _ => n - (intOf s37).toNat)
      case atStart => exact ⟨0, by omega, rfl, Below.refl _ _, rfl⟩
      case round =>
        rename World => w4
        obtain ⟨j, hj, rfl, hb4, hcl⟩ := hrel
        have hz4 := hb4.size
        have HB4 := Lib.hid hb4
        have HCL := Lib.hid hcl
        clear hb4 hcl
        by_cases hlj : j < n
        · have hjl : j < l.length := by rw [HL.out]; exact hlj
          obtain ⟨b, off, rfl, hbb, g0, g1, g2⟩ := (HR3.out.below (HB4.out.mono hz3)).at3 hjl
          have hcs := clash_succ l L j hjl
          have hge := HG.out.ed _ (List.getElem_mem hjl)
          obtain ⟨e, he⟩ : ∃ e, e = l[j] := ⟨_, rfl⟩
          rw [← he] at g0 g1 g2 hcs hge
          have HCA : Hid (clash l L = true ∨ flatE L e = false) := Lib.hid (by
            rcases hf : flatE L e with _ | _
            · exact .inr rfl
            · refine .inl (any_of_get hjl ?_)
              rw [← he]
              exact hf)
          obtain ⟨ea, eb, ew⟩ := e
          obtain ⟨i1, hi1⟩ := Int.eq_ofNat_of_zero_le hge.a0
          obtain ⟨i2, hi2⟩ := Int.eq_ofNat_of_zero_le hge.b0
          have ha1 := hge.a1
          have hb1 := hge.b1
          simp only at hi1 hi2 ha1 hb1
          subst hi1 hi2
          have hnew := Blk.new w4 78 #[.int .i64 i1, .int .i64 i2, .int .i64 ew]
          have n0 := hnew.cell 0
          have n1 := hnew.cell 1
          have HB5 := Lib.hid (HB4.out.alloc hz4 (.cells #[.int .i64 i1, .int .i64 i2, .int .i64 ew] 78))
          obtain ⟨b6, off6, rfl, hbb6, m0⟩ := (HE3.out.below HB5.out).at1 (k := i1) (by rw [HLK.out]; omega)
          obtain ⟨b7, off7, he7, _, m1⟩ := (HE3.out.below HB5.out).at1 (k := i2) (by rw [HLK.out]; omega)
          obtain ⟨rfl, rfl⟩ : b6 = b7 ∧ off6 = off7 := by simpa using he7
          rw [← getD_at L i1 (by rw [HLK.out]; omega) 0] at m0
          rw [← getD_at L i2 (by rw [HLK.out]; omega) 0] at m1
          have hfe : flatE L ⟨(i1 : Int), (i2 : Int), ew⟩ = (L.getD i1 0 == L.getD i2 0) := rfl
          obtain ⟨x, hx⟩ : ∃ x, x = L.getD i1 0 := ⟨_, rfl⟩
          obtain ⟨y, hy⟩ : ∃ y, y = L.getD i2 0 := ⟨_, rfl⟩
          rw [← hx] at m0 hfe
          rw [← hy] at m1 hfe
          have HFE := Lib.hid hfe
          have HCS := Lib.hid hcs
          have hi1k : i1 < k := by omega
          have hi2k : i2 < k := by omega
          clear he hge hnew hx hy hfe hcs he7 ha1 hb1
          by_cases hxy : x = y
          · have hxb : (x == y) = true := by simpa using hxy
            have HCT : Hid (clash l L = true) := Lib.hid (by
              rcases HCA.out with h | h
              · exact h
              · rw [HFE.out, hxb] at h; cases h)
            clear hxy
            go_wp2_with fail
            go_quiet (fail)
            go_wp2_with fail
            refine bodyPost_ret (v := .tuple #[.slice none 0 0, .bool false]) (by simp [results, Tryd.results19, go_sem]) rfl ?_
            refine ⟨none, 0, 0, false, L, rfl, below_drewN (HB3.out.trans (HB5.out.mono hz3)) _, HLK.out, HSL.out, fun _ => ⟨rfl, rfl⟩, ?_⟩
            intro h
            have := HCT.out.symm.trans h
            cases this
          · have hxb : (x == y) = false := by simpa using hxy
            have HNX : Hid (clash (l.take (j + 1)) L = false) := Lib.hid (by rw [HCS.out, HCL.out, HFE.out, hxb]; rfl)
            clear hxy
            go_wp2_with fail
            go_quiet (fail)
            go_wp2_with fail
            go_roundw
            case rel => exact ⟨j + 1, by omega, by go_num, below_drewN HB5.out _, HNX.out⟩
            case measure => simp [intOf]; omega
        · obtain rfl : j = n := by omega
          have hall : l.take j = l := List.take_of_length_le (by rw [HL.out]; omega)
          have HCF : Hid (clash l L = false) := Lib.hid (by have := HCL.out; rwa [hall] at this)
          clear hall
          go_wp2_with fail
          refine bodyPost_ret (v := .tuple #[.slice A2 k c2, .bool true]) (by simp [results, Tryd.results19, go_sem]) rfl ?_
          refine ⟨A2, k, c2, true, L, rfl, HB3.out.trans (HB4.out.mono hz3), HLK.out, HSL.out, ?_, fun _ => ⟨rfl, rfl, (HE3.out.below HB4.out).more hz4⟩⟩
          intro h
          have := HCF.out.symm.trans h
          cases this
end Go.Proofs.YtnpcbbdfpbnakaaDoor
