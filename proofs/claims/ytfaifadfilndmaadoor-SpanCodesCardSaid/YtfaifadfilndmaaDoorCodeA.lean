/- The code of a tree: the program. Conditions: the edges read as a list; the table of the bits. -/
import Derived.Test.YtfaifadfilndmaaDoorCodeR
import Derived.Test.YtfaifadfilndmaaDoorSpread
import Derived.Test.YtfaifadfilndmaaDoorGraphA
import Derived.Test.YtfaifadfilndmaaDoorIdx
import Derived.Test.YtfaifadfilndmaaDoorBit
import Derived.Test.YtfaifadfilndmaaDoorRegC
namespace Go.Proofs.YtfaifadfilndmaaDoor
open Go.RowKit
attribute [local go_sem ↓] w_and w_or w_xor w_andNot w_and1 w_and255 w_xor1 w_or0 w_shl w_shl1 w_shr w_sub w_add w_sub1 w_add1
attribute [local go_sem] w_eq0 w_ne0 w_eq1 w_eq w_ne

theorem ent_code1 : Ent Tryd.prog 46 := ent_of Tryd.func46 (by kernel_rfl) rfl
def oneB (x : BitVec 32) : Bool := (pop x : Int) == 1
theorem span_Code1 (x : BitVec 32) (w : World) : Calls Tryd.prog 46 #[.int .u32 (wN x)] w fun e w' => e = .returned (.bool (oneB x)) ∧ ∃ n, w' = w.drewN n := by
  have HO := Lib.hid (OnesCount32_any x w)
  have HE : Hid (oneB x = ((pop x : Int) == 1)) := Lib.hid rfl
  generalize pop x = p at HO HE
  go_enter Tryd.func46, Tryd.ntmps46
  go_wp2_with fail
  refine HO.out.mono ?_
  rintro e w1 ⟨rfl, q, rfl⟩
  go_wp2_with fail
  go_ret
  exact ⟨ret_bool (by rw [HE.out]), ⟨q, rfl⟩⟩
theorem spread_all {N : Nat} {l : List Ed} (hg : GoodG N l) (hN : 1 ≤ N) {x : BitVec 32} (hx : ∀ j, x.getLsbD j = true ↔ ∃ i, w1.getLsbD i = true ∧ Rch (RS (nearL N l) (maskW N)) i j) : (x != maskW N) = false ↔ ∀ j, j < N → Rch (Adj l) 0 j := by
  have hN10 := hg.n10
  have h1 : ∀ j, x.getLsbD j = true ↔ Rch (Adj l) 0 j := fun j => by
    rw [hx j]
    constructor
    · rintro ⟨i, hi, hr⟩
      rw [b_1] at hi
      have hi0 : i = 0 := by simpa using hi
      subst hi0
      exact (rch_iff (rs_adj hg) 0 j).1 hr
    · exact fun h => ⟨0, by rw [b_1]; simp, (rch_iff (rs_adj hg) 0 j).2 h⟩
  have hlow : ∀ j, Rch (Adj l) 0 j → j < N := fun j h => by
    obtain ⟨m, hm⟩ := h
    cases hm with
    | start => omega
    | step _ h2 => exact (adj_low hg _ _ h2).2
  rw [bne_eq_false_iff_eq]
  constructor
  · intro he j hj
    rw [← h1 j, he, b_mask (by omega)]
    exact decide_eq_true hj
  · intro hall
    refine w_ext fun j _ => ?_
    rw [b_mask (by omega), Bool.eq_iff_iff, h1 j, decide_eq_true_iff]
    exact ⟨hlow j, hall j⟩

set_option maxRecDepth 100000 in
set_option maxHeartbeats 4000000 in
theorem span_Code (N : Int) (A : Option Addr) (n c : Nat) (l : List Ed) (w : World) (hl : l.length = n) (hn : n ≤ maxLen) (hr : Els w w.heap.size 3 Ed.cells A l) (htab : TabOk w) :
    Calls Tryd.prog 18 #[.agg #[.int .i64 N, .slice A n c]] w fun e w' => ∃ (A1 : Option Addr) (k cap : Nat) (er : Int), e = .returned (.tuple #[.slice A1 k cap, .int .i64 er]) ∧ Below w.heap.size w w' ∧
      (graphCheck N l ≠ 0 → k = 0 ∧ er = graphCheck N l) ∧ (graphCheck N l = 0 → ∀ m : Nat, N = m → (treeB m l = false → k = 0 ∧ er = 3) ∧ (treeB m l = true → er = 0 ∧ k = m - 2 ∧ Els w' w'.heap.size 1 icell A1 (intsOf (codeF m (m - 2) l)))) := by
  obtain ⟨S, hS⟩ : ∃ S, S = w.heap.size := ⟨_, rfl⟩
  have h0S : 0 < S := by rw [hS]; exact htab.1
  have hb0 := (Below.refl w.heap.size w).alloc (Nat.le_refl _) (.cells #[.int .i64 N, .slice A n c] 24)
  have hk0 := Blk.new w 24 #[.int .i64 N, .slice A n c]
  have HGC := Lib.hid (graph_Check N A n c l (w.alloc (.cells #[.int .i64 N, .slice A n c] 24)) hl hn ((hr.below hb0).more hb0.size))
  rw [← hS] at hb0 hk0 hr ⊢
  have hz0 : (w.alloc (.cells #[.int .i64 N, .slice A n c] 24)).heap.size = S + 1 := by rw [size_alloc', hS]
  have ht0 := htab.below hb0 h0S
  have HB0 := Lib.hid hb0
  have HK0 := Lib.hid hk0
  have HT0 := Lib.hid ht0
  have HTW := Lib.hid htab
  have HL := Lib.hid hl
  have HR := Lib.hid hr
  have HS := Lib.hid hS
  have HN9 := Lib.hid hn
  have HZ0 := Lib.hid hz0
  have c0 := hk0.cell 0
  have c1 := hk0.cell 1
  unfold maxLen at hn
  clear hl hr hS hb0 hk0 hz0 ht0 htab
  go_enter Tryd.func18, Tryd.ntmps18
  go_wp2_with fail
  rw [← HS.out]
  refine HGC.out.mono ?_
  clear HGC
  rintro e v1 ⟨rfl, hb1⟩
  have hbv := HB0.out.trans (hb1.mono (by rw [HZ0.out]; omega))
  have hkv := HK0.out.below hb1 HK0.out.lt
  have htv := HT0.out.below hb1 (by rw [HZ0.out]; omega)
  have HB1 := Lib.hid hbv
  have HK1 := Lib.hid hkv
  have HT1 := Lib.hid htv
  have hz1 := hbv.size
  rw [← HS.out] at hz1
  have hlt1 := hkv.lt
  clear c0 c1
  have c0 := hkv.cell 0
  have c1 := hkv.cell 1
  clear hb1 hbv hkv htv HB0 HK0 HT0 HZ0
  by_cases h0 : graphCheck N l = 0
  · obtain ⟨M, rfl, hg⟩ := graph_good h0
    have hM10 := hg.n10
    have hm45 := hg.m45
    rw [HL.out] at hm45
    have HNR := Lib.hid (graph_Near M A n c l v1 HL.out hg ((HR.out.below HB1.out).more hz1))
    have HG := Lib.hid hg
    have HZ := Lib.hid h0
    rw [h0]
    clear h0 hg
    go_wp2_with fail
    refine HNR.out.mono ?_
    clear HNR
    rintro e v2 ⟨A1, rfl, hb2, ho2⟩
    have hbv := HB1.out.trans (hb2.mono hz1)
    have hkv := HK1.out.below hb2 hlt1
    have htv := HT1.out.below hb2 (by omega)
    have HB2 := Lib.hid hbv
    have HK2 := Lib.hid hkv
    have HT2 := Lib.hid htv
    have hz2 := hbv.size
    rw [← HS.out] at hz2
    have hlt2 := hkv.lt
    have HO2 := Lib.hid (ho2.weaken (show S + 1 ≤ v1.heap.size + 1 by omega))
    clear c0 c1 hb2 hbv hkv htv ho2 HB1 HK1 HT1
    have hbad : treeB M l = false → ∀ w' : World, Below S w w' → ∃ (A1 : Option Addr) (k cap : Nat) (er : Int), Ending.returned (.tuple #[.slice none 0 0, .int .i64 3]) = Ending.returned (.tuple #[.slice A1 k cap, .int .i64 er]) ∧ Below S w w' ∧
      (graphCheck (M : Int) l ≠ 0 → k = 0 ∧ er = graphCheck (M : Int) l) ∧ (graphCheck (M : Int) l = 0 → ∀ m : Nat, (M : Int) = m → (treeB m l = false → k = 0 ∧ er = 3) ∧ (treeB m l = true → er = 0 ∧ k = m - 2 ∧ Els w' w'.heap.size 1 icell A1 (intsOf (codeF m (m - 2) l)))) := fun hf w' hb =>
      ⟨none, 0, 0, 3, rfl, hb, fun h => absurd HZ.out h, fun _ m hm => by
        obtain rfl : M = m := by omega
        exact ⟨fun _ => ⟨rfl, rfl⟩, fun h => by rw [hf] at h; cases h⟩⟩
    have HBAD := Lib.hid hbad
    have HC : Hid (∀ w' : World, Below v2.heap.size v2 w' → w'.cell? ⟨S, 0, none⟩ = some (.int .i64 M) ∧ w'.cell? ⟨S, 1, none⟩ = some (.slice A n c)) := Lib.hid (fun w' hb => ⟨(HK2.out.below hb hlt2).cell 0, (HK2.out.below hb hlt2).cell 1⟩)
    clear hbad
    by_cases hM2 : M < 2
    · have h2' : (M : Int) < 2 := by omega
      have HF : Hid (treeB M l = false) := Lib.hid (treeB_false fun h => by have := h.1; omega)
      go_wp2_with fail
      refine region_plain 99 25 (fun w' => Below v2.heap.size v2 w') (by kernel_rfl) rfl ?_
      refine anyC_reads (by kernel_rfl) [0, 1, 2, 3, 4, 5, 6, 7, 8, 9, 10, 11, 12, 13, 14, 15, 16, 17, 18, 19, 20, 21, 22, 23, 24] ?opa ?oha 0 _ _ _ (by kernel_rfl) ?oka
      case oha => (simp only [List.filterMap_cons, List.filterMap_nil, List.getElem?_toArray, List.getElem?_cons_zero, List.getElem?_cons_succ]; try rfl)
      repeat (first
        | (refine readC_skip (by rfl) ?_
           go_simp)
        | (refine readC_step (v := ?_) rfl (fun w' hw' => ?_) ?_
           rotate_left
           focus (obtain ⟨p0, p1⟩ := HC.out w' hw'; go_simp; try with_reducible rfl)
           go_simp))
      refine readC_nil ?_
      refine anyC_end (by kernel_rfl) (.inr (Below.refl _ v2).drew) ?_
      go_wp2_with fail
      refine bodyPost_ret (v := .tuple #[.slice none 0 0, .int .i64 3]) (by simp [results, Tryd.results18, go_sem]) rfl ?_
      exact HBAD.out HF.out _ HB2.out.drew
    · have h2' : decide ((M : Int) < 2) = false := by simp; omega
      by_cases hnn : n + 1 = M
      · have hne : ((n : Int) != (M : Int) - 1) = false := by simp; omega
        have hmw : IntKind.i64.wrap ((M : Int) - 1) = (M : Int) - 1 := IntWalk.i64_in _ (by omega)
        obtain ⟨g1, rfl, hg1, hg1lt⟩ := HO2.out.form_ (by rw [nearL_length]; omega)
        have hfr : ∀ j, w1.getLsbD j = true → j < M := fun j hj => by
          rw [b_1] at hj
          have : j = 0 := by simpa using hj
          omega
        have hwi : ∀ j, (wSub (wShl w1 M) w1).getLsbD j = true → j < M := fun j hj => by
          have hj' : (maskW M).getLsbD j = true := hj
          rw [b_mask (by omega)] at hj'
          simpa using hj'
        have hN10 := hM10
        have HSP := Lib.hid (graph_Spread (some ⟨g1, 0, none⟩) M M (nearL M l) w1 (wSub (wShl w1 M) w1) v2.drew (nearL_length _ _) (by omega) ((HO2.out.drew).els) (show TabOk v2.drew from HT2.out) (show 0 < v2.heap.size by omega) hfr hwi)
        have hw11 : wN w1 = 1 := rfl
        rw [hw11] at HSP
        clear hw11 hfr hwi hN10
        go_wp2_with fail
        refine region_plain 24 25 (fun w' => Below v2.heap.size v2 w') (by kernel_rfl) rfl ?_
        refine anyC_reads (by kernel_rfl) [0, 1, 2, 3, 4, 5, 6, 7, 8, 9, 10, 11, 12, 13, 14, 15, 16, 17, 19, 20, 21, 22] ?opb ?ohb 3 _ _ _ (by kernel_rfl) ?okb
        case ohb => (simp only [List.filterMap_cons, List.filterMap_nil, List.getElem?_toArray, List.getElem?_cons_zero, List.getElem?_cons_succ]; try rfl)
        repeat (first
          | (refine readC_skip (by rfl) ?_
             go_simp)
          | (refine readC_step (v := ?_) rfl (fun w' hw' => ?_) ?_
             rotate_left
             focus (obtain ⟨p0, p1⟩ := HC.out w' hw'; go_simp; try with_reducible rfl)
             go_simp))
        refine readC_nil ?_
        refine anyC_one (i := 18) (by kernel_rfl) rfl rfl (.inr (Below.refl _ v2).drew) ?_
        go_simp
        refine HSP.out.mono ?_
        clear HSP
        rintro e v3 ⟨x, rfl, hb3, hx⟩
        have hsa := spread_all HG.out (by omega) hx
        have hb23 : Below v2.heap.size v2 v3 := ((Below.refl _ v2).drew).trans hb3
        have hbv := HB2.out.trans (hb23.mono hz2)
        have HB3 := Lib.hid hbv
        have hz3 := hbv.size
        rw [← HS.out] at hz3
        have HO3 := Lib.hid (HO2.out.below hb23 (Nat.le_refl _))
        have HSA := Lib.hid hsa
        have HB23 := Lib.hid hb23
        clear hb3 hx hb23 hbv hsa
        refine anyC_one (i := 23) (by kernel_rfl) rfl rfl (.inr HB23.out) ?_
        go_simp
        refine anyC_one (i := 24) (by kernel_rfl) rfl rfl (.inr HB23.out) ?_
        go_simp
        refine anyC_end (by kernel_rfl) (.inl rfl) ?_
        by_cases hq : (x != maskW M) = false
        · have hT : TreeP M l := ⟨by omega, by rw [HL.out]; exact hnn, HSA.out.1 hq⟩
          have hq2 : (x != wSub (wShl w1 M) w1) = false := hq
          have HTR := Lib.hid hT
          have HTB := Lib.hid (treeB_true hT)
          have HTL := Lib.hid (hT.tl HG.out)
          have hm2 : IntKind.i64.wrap ((M : Int) - 2) = (M : Int) - 2 := IntWalk.i64_in _ (by omega)
          have d0 := (HC.out v3 HB23.out).1
          have hOI : Hid (Own v3 (S + 1) 3 1 icell none 0 (intsOf [])) := Lib.hid (Own.nil _ _ _ (fun _ => rfl))
          clear hq hT HSA HBAD
          try rw [hq2]
          go_wp2_with fail
          clear d0
          go_loopw [44, 6] (fun s44 s6 wr => ∃ (r : Nat) (A6 : Option Addr) (c6 : Nat) (pl : List Nat) (lr : List Ed) (V : Nat → Bool), r ≤ M - 2 ∧ s44 = .int .i64 r ∧ s6 = .slice A6 r c6 ∧ pl.length = r ∧ codeF M (M - 2) l = pl ++ codeF M (M - 2 - r) lr ∧ TL M lr V ∧ lr.length + r + 1 = M ∧ Below S w wr ∧ Own wr (S + 1) 58 1 wcell (some ⟨g1, 0, none⟩) M (nearL M lr) ∧ Own wr (S + 1) 3 1 icell A6 c6 (intsOf pl)) (fun s44 _ _ => M - (intOf s44).toNat)
          case atStart => exact ⟨0, none, 0, [], l, _, by omega, rfl, rfl, rfl, rfl, HTL.out, by rw [HL.out]; omega, HB3.out, HO3.out, hOI.out⟩
          case round =>
            clear HB3 HO3 hOI HTL
            rename World => wr
            obtain ⟨r, A6, c6, pl, lr, V, hrM, rfl, rfl, hpl, hcode, htl, hlr, hb, ho, hoi⟩ := hrel
            have hz := hb.size
            rw [← HS.out] at hz
            have HPL := Lib.hid hpl
            have HCODE := Lib.hid hcode
            have HB := Lib.hid hb
            have HO := Lib.hid ho
            have HOI := Lib.hid hoi
            have htab : TabOk wr := HTW.out.below hb h0S
            have HTAB := Lib.hid htab
            clear hpl hcode hb ho hoi htab
            by_cases hlt : r < M - 2
            · have hlt1 : (r : Int) < (M : Int) - 2 := by omega
              have hg := htl.good
              obtain ⟨i, k, hkl, hiM, hdi, hbef, htch, hnot, hnext, hcf⟩ := htl.step (by omega)
              have hge := hg.ed _ (List.getElem_mem hkl)
              have hnl := near_leaf hg hiM hkl htch hnot
              have hne := near_erase hg hiM hkl htch hnot hnext.good
              have hoM : otherE i lr[k] < M := by
                have h0 := hge.a0; have h1 := hge.a1; have h2 := hge.b0; have h3 := hge.b1
                have ht' : lr[k].a = i ∨ lr[k].b = i := by unfold touches at htch; simpa using htch
                unfold otherE; omega
              have hoi : otherE i lr[k] ≠ i := by
                have h0 := hge.a0; have h2 := hge.b0; have h4 := hge.ne
                have ht' : lr[k].a = i ∨ lr[k].b = i := by unfold touches at htch; simpa using htch
                unfold otherE; omega
              obtain ⟨o, hoe⟩ : ∃ o, o = otherE i lr[k] := ⟨_, rfl⟩
              rw [← hoe] at hnl hne hoM hoi hcf
              have hil : i < (nearL M lr).length := by rw [nearL_length]; exact hiM
              have hidx : idxF oneB (nearL M lr) = (i : Int) := by
                refine idxF_at hil ?_ ?_
                · rw [List.any_eq_false]
                  intro x hx
                  obtain ⟨v, hv, rfl⟩ := List.mem_iff_getElem.1 hx
                  have hvi : v < i := by rw [List.length_take] at hv; omega
                  rw [List.getElem_take, ← lw_at _ v (by rw [nearL_length]; omega)]
                  unfold oneB
                  rw [pop_near hg (by omega)]
                  have := hbef v hvi
                  simp; omega
                · rw [← lw_at _ i hil]
                  unfold oneB
                  rw [pop_near hg hiM, hdi]
                  rfl
              have HIDX := IndexFunc_words 46 ent_code1 #[] oneB (some ⟨g1, 0, none⟩) M M (nearL M lr) wr (nearL_length _ _) (by unfold maxLen; omega) HO.out.els (fun a wx _ _ => by simpa using (span_Code1 a wx).mono fun e w' ⟨he, q, hw⟩ => ⟨he, by subst hw; exact below_drewN (Below.refl _ _) q⟩)
              rw [hidx] at HIDX
              have HID := Lib.hid HIDX
              have hx0 : lw (nearL M lr) i ≠ w0 := fun h => by
                have := hnl o
                rw [h, b_0] at this
                simp at this
              have htz : tz (lw (nearL M lr) i) = o := by
                have h1 := tz_bit hx0
                rw [hnl] at h1
                simpa using h1
              have hlo : lw ((nearL M lr).set i w0) o = lw (nearL M lr) o := by
                rw [lw_at _ o (by rw [List.length_set, nearL_length]; exact hoM), List.getElem_set_ne (by omega), lw_at _ o (by rw [nearL_length]; exact hoM)]
              have HLN := Lib.hid (nearL_length M lr)
              have HNE := Lib.hid hne
              have HNEXT := Lib.hid hnext
              have HCF := Lib.hid hcf
              have HTZ := Lib.hid htz
              have HLO := Lib.hid hlo
              have HX0 := Lib.hid hx0
              have HKL : Hid (k < lr.length) := Lib.hid hkl
              obtain ⟨xi, hxi⟩ : ∃ xi, xi = lw (nearL M lr) i := ⟨_, rfl⟩
              obtain ⟨xo, hxo⟩ : ∃ xo, xo = lw (nearL M lr) o := ⟨_, rfl⟩
              rw [← hxi] at HTZ HX0
              rw [← hxo] at HLO HNE
              have HXI := Lib.hid hxi
              have HXO := Lib.hid hxo
              clear hg hkl hdi hbef htch hnot hnext hcf hge hnl hne hidx HIDX hx0 htz hlo hil hxi hxo htl hoe
              go_wp2_with fail
              refine HID.out.mono ?_
              clear HID
              rintro e w3 ⟨rfl, hb3⟩
              have ho3 := HO.out.below hb3 (Nat.le_refl _)
              obtain ⟨gx, hgx, _, _, ci, fi⟩ := ho3.cell1 (k := i) (by rw [HLN.out]; exact hiM)
              obtain rfl : g1 = gx := by simpa using hgx
              rw [← lw_at _ i (by rw [HLN.out]; exact hiM), ← HXI.out] at ci
              have hp3 := ho3.put1 (f := fun x => .int .u32 (wN x)) (k := i) (x := w0) (by rw [HLN.out]; exact hiM)
              have hg3 := (ho3.lt g1 rfl)
              have hoi3 := HOI.out.below hb3 (Nat.le_refl _)
              have hap := hoi3.apart ho3 (by decide)
              have hfar : blkOf A6 ≠ some g1 := fun e => by
                rcases hap with h | h
                · rw [h] at e; cases e
                · exact h (by rw [e]; rfl)
              have htb3 : TabOk w3 := HTAB.out.below hb3 (by omega)
              have HTZC := Lib.hid (TrailingZeros32_ne xi w3 HX0.out htb3)
              rw [HTZ.out] at HTZC
              have hbw3 := HB.out.trans (hb3.mono hz)
              obtain ⟨w4, hw4⟩ : ∃ w4, w4 = w3.setCell ⟨g1, i, none⟩ (.int .u32 0) := ⟨_, rfl⟩
              have hp4 : Own w4 (S + 1) 58 1 wcell (some ⟨g1, 0, none⟩) M ((nearL M lr).set i w0) := by rw [hw4]; exact hp3
              obtain ⟨gy, hgy, _, _, co, fo⟩ := hp4.cell1 (k := o) (by rw [List.length_set, HLN.out]; exact hoM)
              obtain rfl : g1 = gy := by simpa using hgy
              rw [← lw_at _ o (by rw [List.length_set, HLN.out]; exact hoM), HLO.out] at co
              have hp5 := hp4.put1 (f := fun x => .int .u32 (wN x)) (k := o) (x := wBut xo (wShl w1 i)) (by rw [List.length_set, HLN.out]; exact hoM)
              rw [← HNE.out] at hp5
              have hb4 : Below S w w4 := by rw [hw4]; exact hbw3.setCell (p := ⟨g1, i, none⟩) (show S ≤ g1 by omega) _
              have hoi4 : Own w4 (S + 1) 3 1 icell A6 c6 (intsOf pl) := by rw [hw4]; exact hoi3.far hfar _
              have HW4 := Lib.hid hw4
              have HP5 := Lib.hid hp5
              have HB4 := Lib.hid hb4
              have HOI4 := Lib.hid hoi4
              have HFAR := Lib.hid hfar
              have hgS : S ≤ g1 := by omega
              clear hb3 ho3 hgx hp3 hg3 hoi3 hap hfar htb3 hbw3 hp4 hgy hp5 hb4 hoi4 hw4
              go_wp2_with fail
              refine HTZC.out.mono ?_
              clear HTZC
              rintro e w' ⟨rfl, rfl⟩
              go_wp2_with fail
              rw [← HW4.out]
              have e0 : w4.drew.cell? ⟨g1, o, none⟩ = some (.int .u32 (wN xo)) := co
              have e1 : w4.drew.frozen? ⟨g1, o, none⟩ = false := fo
              clear co fo ci fi
              refine region_plain 8 9 (fun w' => w' = w4.drew) (by kernel_rfl) rfl ?_
              refine anyC_reads (by kernel_rfl) [0, 1, 2, 3, 4, 5, 6] ?opc ?ohc 2 _ _ _ (by kernel_rfl) ?okc
              case ohc => (simp only [List.filterMap_cons, List.filterMap_nil, List.getElem?_toArray, List.getElem?_cons_zero, List.getElem?_cons_succ]; try rfl)
              repeat (
                refine readC_step (v := ?_) rfl (fun w' hw' => ?_) ?_
                rotate_left
                focus (subst hw'; go_simp; try with_reducible rfl)
                go_simp)
              refine readC_nil ?_
              refine anyC_one (i := 7) (by kernel_rfl) rfl rfl (.inr rfl) ?_
              go_simp
              refine anyC_one (i := 8) (by kernel_rfl) rfl rfl (.inr rfl) ?_
              go_simp
              refine anyC_end (by kernel_rfl) (.inl rfl) ?_
              obtain ⟨w5, hw5⟩ : ∃ w5, w5 = (w4.setCell ⟨g1, o, none⟩ (.int .u32 (wN (wBut xo (wShl w1 i))))).drew := ⟨_, rfl⟩
              have hb5 : Below S w w5 := by rw [hw5]; exact (HB4.out.setCell (p := ⟨g1, o, none⟩) (show S ≤ g1 by omega) _).drew
              have ho5 : Own w5 (S + 1) 58 1 wcell (some ⟨g1, 0, none⟩) M (nearL M (lr.eraseIdx k)) := by rw [hw5]; exact HP5.out.drew
              have hoi5 : Own w5 (S + 1) 3 1 icell A6 c6 (intsOf pl) := by rw [hw5]; exact (HOI4.out.far (p := ⟨g1, o, none⟩) HFAR.out _).drew
              have hz5 := hb5.size
              rw [← HS.out] at hz5
              have hz51 : S + 1 ≤ w5.heap.size := by have := (ho5.lt g1 rfl); omega
              have HB5 := Lib.hid hb5
              have HO5 := Lib.hid ho5
              have HOI5 := Lib.hid hoi5
              have HW5 := Lib.hid hw5
              have he8 : intsOf pl ++ [(o : Int)] = intsOf (pl ++ [o]) := by simp [intsOf]
              have HE8 := Lib.hid he8
              clear hb5 ho5 hoi5 hw5 he8
              rw [← HW5.out]
              go_wp2_with (at_builtin; go_must (
                refine wpList_push rfl _ _ _ rfl (S + 1) 1 3 (.int .i64 0) 8 Tryd.underlying31 (by kernel_rfl) rfl (by omega) icell w5 #[.int .i64 o] A6 r c6 (intsOf pl) (by rw [intsOf, List.length_map]; exact HPL.out) rfl HOI5.out 1 [(o : Int)] rfl rfl _ rfl rfl (by simp [Value.oneCell']) (by unfold maxLen; omega) (by omega) (by omega) ?_
                intro A7 c7 w6 hown6 hgrow6 hloc6))
              rw [HE8.out] at hown6
              have hb6 := (HB5.out.alloc hz5 _).grown hgrow6 (by rw [size_alloc']; omega) (fun g hg => by have := (HOI5.out.lt g hg).1; omega)
              have ho6 := (HO5.out.alloc (.cells #[.int .i64 o] 3)).kept hgrow6 ((HO5.out.alloc _).apart (HOI5.out.alloc (.cells #[.int .i64 o] 3)) (by decide))
              have HB6 := Lib.hid hb6
              have HO6 := Lib.hid ho6
              have HOI6 := Lib.hid hown6
              clear hown6 hgrow6 hloc6 hb6 ho6
              go_wp2_with fail
              go_roundw
              case rel => exact ⟨r + 1, A7, c7, pl ++ [o], lr.eraseIdx k, _, by omega, by go_num, rfl, by rw [List.length_append, HPL.out]; rfl, by rw [HCODE.out, show M - 2 - r = M - 2 - (r + 1) + 1 by omega, HCF.out, List.append_assoc]; rfl, HNEXT.out, by rw [List.length_eraseIdx_of_lt HKL.out]; omega, HB6.out, HO6.out, HOI6.out⟩
              case measure => simp [intOf]; omega
            · obtain rfl : r = M - 2 := by omega
              have hlt1 : ¬ (((M - 2 : Nat) : Int) < (M : Int) - 2) := by omega
              have hfin : codeF M (M - 2) l = pl := by rw [HCODE.out, Nat.sub_self]; simp [codeF]
              have HF := Lib.hid hfin
              clear hfin htl
              go_wp2_with fail
              refine bodyPost_ret (v := .tuple #[.slice A6 (M - 2) c6, .int .i64 0]) (by simp [results, Tryd.results18, go_sem]) rfl ?_
              exact ⟨A6, M - 2, c6, 0, rfl, HB.out, fun h => absurd HZ.out h, fun _ m hm => by
                obtain rfl : M = m := by omega
                exact ⟨fun h => (by rw [HTB.out] at h; cases h), fun _ => ⟨rfl, rfl, by rw [HF.out]; exact HOI.out.els⟩⟩⟩
        · have hq1 : (x != maskW M) = true := by simpa using hq
          have hq2 : (x != wSub (wShl w1 M) w1) = true := hq1
          have HF : Hid (treeB M l = false) := Lib.hid (treeB_false fun h => hq (HSA.out.2 h.2.2))
          clear hq hq1 HSA
          try rw [hq2]
          go_wp2_with fail
          refine bodyPost_ret (v := .tuple #[.slice none 0 0, .int .i64 3]) (by simp [results, Tryd.results18, go_sem]) rfl ?_
          exact HBAD.out HF.out _ HB3.out
      · have hne : ((n : Int) != (M : Int) - 1) = true := by simp; omega
        have hmw : IntKind.i64.wrap ((M : Int) - 1) = (M : Int) - 1 := IntWalk.i64_in _ (by omega)
        have HF : Hid (treeB M l = false) := Lib.hid (treeB_false fun h => by have := h.2.1; rw [HL.out] at this; omega)
        go_wp2_with fail
        refine region_plain 99 25 (fun w' => Below v2.heap.size v2 w') (by kernel_rfl) rfl ?_
        refine anyC_reads (by kernel_rfl) [0, 1, 2, 3, 4, 5, 6, 7, 8, 9, 10, 11, 12, 13, 14, 15, 16, 17, 18, 19, 20, 21, 22, 23, 24] ?opd ?ohd 0 _ _ _ (by kernel_rfl) ?okd
        case ohd => (simp only [List.filterMap_cons, List.filterMap_nil, List.getElem?_toArray, List.getElem?_cons_zero, List.getElem?_cons_succ]; try rfl)
        repeat (first
          | (refine readC_skip (by rfl) ?_
             go_simp)
          | (refine readC_step (v := ?_) rfl (fun w' hw' => ?_) ?_
             rotate_left
             focus (obtain ⟨p0, p1⟩ := HC.out w' hw'; go_simp; try with_reducible rfl)
             go_simp))
        refine readC_nil ?_
        refine anyC_end (by kernel_rfl) (.inr (Below.refl _ v2).drew) ?_
        go_wp2_with fail
        refine bodyPost_ret (v := .tuple #[.slice none 0 0, .int .i64 3]) (by simp [results, Tryd.results18, go_sem]) rfl ?_
        exact HBAD.out HF.out _ HB2.out.drew
  · have h1 : (graphCheck N l != 0) = true := by simpa using h0
    obtain ⟨x, hx⟩ : ∃ x, x = graphCheck N l := ⟨_, rfl⟩
    rw [← hx] at h1 ⊢
    have HX := Lib.hid hx
    have H0 := Lib.hid h0
    clear h0 hx
    go_wp2_with fail
    refine bodyPost_ret (v := .tuple #[.slice none 0 0, .int .i64 x]) (by simp [results, Tryd.results18, go_sem]) rfl ?_
    exact ⟨none, 0, 0, x, rfl, HB1.out, fun _ => ⟨rfl, HX.out⟩, fun h => absurd h H0.out⟩
end Go.Proofs.YtfaifadfilndmaaDoor
