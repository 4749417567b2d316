/- The first shortest walk: the reference's way to tell it; the law. Conditions: the arcs read as a list. -/
import Derived.Test.YtfaifadfilndmaaWayB
import Derived.Test.YtfaifadfilndmaaEq
namespace Go.Proofs.Ytfaifadfilndmaa
open Go.RowKit

set_option maxRecDepth 100000 in
set_option maxHeartbeats 4000000 in
theorem ref_Way (M a b : Nat) (A : Option Addr) (n c : Nat) (l : List Arc) (w : World) (hl : l.length = n) (hg : ∀ a ∈ l, GoodA M a) (hM10 : M ≤ 10) (hn30 : n ≤ 30) (haM : a < M) (hbM : b < M) (hr : Els w w.heap.size 4 Arc.cells A l) :
    Calls Try.prog 18 #[.agg #[.int .i64 M, .slice A n c], .int .i64 a, .int .i64 b] w fun e w' => ∃ (A1 : Option Addr) (n1 c1 : Nat) (ok : Bool), e = .returned (.tuple #[.slice A1 n1 c1, .bool ok]) ∧ Below w.heap.size w w' ∧
      (fromOk l M a = false ∨ og (refO l M a M) b = none → n1 = 0 ∧ ok = false) ∧ (fromOk l M a = true → ∀ x, og (refO l M a M) b = some x → ok = true ∧ WayIs l M a b A1 n1 w') := by
  obtain ⟨S, hS⟩ : ∃ S, S = w.heap.size := ⟨_, rfl⟩
  have hb0 := (Below.refl w.heap.size w).alloc (Nat.le_refl _) (.cells #[.int .i64 M, .slice A n c] 34)
  have hk0 := Blk.new w 34 #[.int .i64 M, .slice A n c]
  have HSINK : Hid (∀ v : World, Below S w v → Calls Try.prog 35 #[.agg #[.int .i64 M, .slice A n c], .int .i64 a] v fun e w' => e = .returned (.bool (!fromOk l M a)) ∧ Below v.heap.size v w') := Lib.hid (fun v hb => by
    rw [hS] at hb
    exact ref_Sinks M a A n c l v hl hg hM10 hn30 haM ((hr.below hb).more hb.size))
  have HREACH : Hid (∀ v : World, Below S w v → Calls Try.prog 36 #[.agg #[.int .i64 M, .slice A n c], .int .i64 a, .int .i64 M] v fun e w' => ∃ A0 cap, e = .returned (.slice A0 M cap) ∧ Below v.heap.size v w' ∧ Els w' w'.heap.size 1 icell A0 (refL (refO l M a M))) := Lib.hid (fun v hb => by
    rw [hS] at hb
    exact ref_Reach M a M A n c l v hl hg hM10 hn30 haM (by omega) ((hr.below hb).more hb.size))
  have HEX : Hid (∀ (v : World) (at_ k : Nat), Below S w v → at_ < M → k ≤ 11 → Calls Try.prog 37 #[.agg #[.int .i64 M, .slice A n c], .int .i64 at_, .int .i64 b, .int .i64 k] v fun e w' => e = .returned (.int .i64 ((og (exO l M b k) at_).getD farV)) ∧ Below v.heap.size v w') := Lib.hid (fun v at_ k hb h1 h2 => by
    rw [hS] at hb
    exact ref_exact M at_ b k A n c l v hl hg hM10 hn30 h1 hbM h2 ((hr.below hb).more hb.size))
  rw [← hS] at hb0 hk0 hr ⊢
  have hz0 : (w.alloc (.cells #[.int .i64 M, .slice A n c] 34)).heap.size = S + 1 := by rw [size_alloc', hS]
  have hlen : (refO l M a M).length = M := refO_length _ _ _ _
  have hbnd : ∀ x, og (refO l M a M) b = some x → -400000000 ≤ x ∧ x ≤ 400000000 := fun x h => ref_bound0 hg haM (show M ≤ 11 by omega) h
  have HL := Lib.hid hl
  have HR := Lib.hid hr
  have HS := Lib.hid hS
  have HG := Lib.hid hg
  have HB2 := Lib.hid hb0
  have HK2 := Lib.hid hk0
  have hSz0 : S ≤ (w.alloc (.cells #[.int .i64 M, .slice A n c] 34)).heap.size := by rw [hz0]; omega
  have hSlt0 : S < (w.alloc (.cells #[.int .i64 M, .slice A n c] 34)).heap.size := by rw [hz0]; omega
  obtain ⟨O, hO⟩ : ∃ O, O = refO l M a M := ⟨_, rfl⟩
  have HOO := Lib.hid hO
  rw [← hO] at HREACH hlen hbnd
  obtain ⟨ok, hok⟩ : ∃ ok, ok = fromOk l M a := ⟨_, rfl⟩
  have HOK := Lib.hid hok
  rw [← hok] at HSINK
  clear hl hr hS hb0 hk0 hz0 hg hO hok
  go_enter Try.func18, Try.ntmps18
  go_wp2_with fail
  rw [← HS.out]
  refine (HSINK.out _ HB2.out).mono ?_
  clear HSINK
  rintro e v1 ⟨rfl, hb1⟩
  have HB3 := Lib.hid (HB2.out.trans (hb1.mono hSz0))
  have hk1 := HK2.out.below hb1 hSlt0
  have HK3 := Lib.hid hk1
  have c0 := hk1.cell 0
  have c1 := hk1.cell 1
  clear hb1 hk1 HB2 HK2 hSz0 hSlt0
  cases ok with
  | false =>
    go_wp2_with fail
    refine bodyPost_ret (v := .tuple #[.slice none 0 0, .bool false]) (by simp [results, Try.results18, go_sem]) rfl ?_
    exact ⟨none, 0, 0, false, rfl, HB3.out, fun _ => ⟨rfl, rfl⟩, fun h => by rw [← HOK.out] at h; cases h⟩
  | true =>
    have hz1 := HB3.out.size
    rw [← HS.out] at hz1
    go_wp2_with fail
    refine (HREACH.out _ HB3.out).mono ?_
    rintro e v2 ⟨A0, cap0, rfl, hb2, he2⟩
    have HB4 := Lib.hid (HB3.out.trans (hb2.mono hz1))
    have hk2 := HK3.out.below hb2 HK3.out.lt
    have HK4 := Lib.hid hk2
    have hbl : b < (refL O).length := by rw [refL_length, hlen]; exact hbM
    obtain ⟨b4, o4, rfl, _, g4⟩ := he2.at1 hbl
    rw [← getD_at _ b hbl 0, refL_at _ _ (by rw [hlen]; exact hbM)] at g4
    clear c0 c1 hb2 he2 hbl
    have c0 := hk2.cell 0
    have c1 := hk2.cell 1
    clear hk2 HB3 HK3
    cases hx : og O b with
    | none =>
      rw [hx] at g4
      simp only [Option.getD_none, farV] at g4
      have HX := Lib.hid hx
      clear hx
      go_wp2_with fail
      refine bodyPost_ret (v := .tuple #[.slice none 0 0, .bool false]) (by simp [results, Try.results18, go_sem]) rfl ?_
      exact ⟨none, 0, 0, false, rfl, HB4.out, fun _ => ⟨rfl, rfl⟩, fun _ x h => by rw [← HOO.out, HX.out] at h; cases h⟩
    | some x0 =>
      rw [hx] at g4
      simp only [Option.getD_some] at g4
      have hx0 := hbnd x0 hx
      have HX := Lib.hid hx
      have HTH : Hid (∃ k, k < M ∧ og (exO l M b k) a = some x0) := Lib.hid (by
        have h := size_there HG.out haM hbM HOK.out.symm (x := x0) (by rw [← HOO.out]; exact hx)
        rw [← HOO.out, hx] at h
        exact h)
      have hne9 : (x0 == 1152921504606846976) = false := by simp; omega
      clear hx hbnd
      go_wp2_with fail
      clear g4
      go_loopw [8] (fun s8 wr => ∃ k : Nat, k < M ∧ s8 = .int .i64 k ∧ Below S w wr ∧ Blk wr S 34 #[.int .i64 M, .slice A n c] ∧ ∀ j, j < k → og (exO l M b j) a ≠ some x0) (fun s8 _ => M - (intOf s8).toNat)
      case atStart => exact ⟨0, by omega, rfl, HB4.out, HK4.out, fun j hj => by omega⟩
      case round =>
        clear HB4 HK4 c0 c1
        rename World => wr
        obtain ⟨k, hkM, rfl, hb, hk0, hno⟩ := hrel
        have hz := hb.size
        rw [← HS.out] at hz
        have hlt0 := hk0.lt
        have HB := Lib.hid hb
        have HK := Lib.hid hk0
        have HNO := Lib.hid hno
        clear hb hk0 hno
        obtain ⟨Y, hY⟩ : ∃ Y, Y = (og (exO l M b k) a).getD farV := ⟨_, rfl⟩
        have hYb : og (exO l M b k) a ≠ some x0 → Y ≠ x0 := fun h => by
          rw [hY]
          cases ho : og (exO l M b k) a with
          | none => show farV ≠ x0; unfold farV; omega
          | some y => exact fun e => h (by rw [ho]; exact congrArg some e)
        have hYe : og (exO l M b k) a = some x0 → Y = x0 := fun h => by rw [hY, h]; rfl
        have HEX1 : Hid (∀ v : World, Below S w v → Calls Try.prog 37 #[.agg #[.int .i64 M, .slice A n c], .int .i64 a, .int .i64 b, .int .i64 k] v fun e w' => e = .returned (.int .i64 Y) ∧ Below v.heap.size v w') := Lib.hid (fun v hb => by
          rw [hY]; exact HEX.out v a k hb haM (by omega))
        have HY := Lib.hid hY
        have HYB := Lib.hid hYb
        have HYE := Lib.hid hYe
        clear hY hYb hYe
        go_wp2_with fail
        refine region_plain 13 14 (fun w' => Below wr.heap.size wr w') (by kernel_rfl) rfl ?_
        refine anyC_reads (by kernel_rfl) [0, 1, 2, 3, 5, 6, 7, 8, 10] ?opz ?ohz 5 _ _ _ (by kernel_rfl) ?okz
        case ohz => (simp only [List.filterMap_cons, List.filterMap_nil, List.getElem?_toArray, List.getElem?_cons_zero, List.getElem?_cons_succ]; try rfl)
        repeat (
          refine readC_step (v := ?_) rfl (fun w' hw' => ?_) ?_
          rotate_left
          focus (have p0 := (HK.out.below hw' hlt0).cell 0; have p1 := (HK.out.below hw' hlt0).cell 1; go_simp; try with_reducible rfl)
          go_simp)
        refine readC_nil ?_
        refine anyC_one (i := 4) (by kernel_rfl) rfl rfl (.inr (Below.refl _ wr).drew) ?_
        go_simp
        refine (HEX1.out wr.drew HB.out.drew).mono ?_
        rintro e v3 ⟨rfl, hb3⟩
        have hb3' : Below wr.heap.size wr v3 := ((Below.refl _ wr).drew).trans hb3
        have hz3 := hb3'.size
        have HB3' := Lib.hid hb3'
        refine anyC_one (i := 9) (by kernel_rfl) rfl rfl (.inr hb3') ?_
        go_simp
        refine (HREACH.out v3 (HB.out.trans (hb3'.mono hz))).mono ?_
        rintro e v4 ⟨A0, cap0, rfl, hb4, he4⟩
        have hb4' : Below wr.heap.size wr v4 := hb3'.trans (hb4.mono hz3)
        have HB4' := Lib.hid hb4'
        have hbl : b < (refL O).length := by rw [refL_length, hlen]; exact hbM
        obtain ⟨b4, o4, rfl, _, g4⟩ := he4.at1 hbl
        rw [← getD_at _ b hbl 0, refL_at _ _ (by rw [hlen]; exact hbM), HX.out] at g4
        simp only [Option.getD_some] at g4
        have hHB : Below S w v4 := HB.out.trans (hb4'.mono hz)
        have HBV := Lib.hid hHB
        have HKV := Lib.hid (HK.out.below hb4' hlt0)
        clear hb3 hb4 he4 hbl hb3' hHB
        refine anyC_one (i := 11) (by kernel_rfl) rfl rfl (.inr hb4') ?_
        clear hb4'
        go_simp
        refine anyC_one (i := 12) (by kernel_rfl) rfl rfl (.inr HB4'.out) ?_
        go_simp
        refine anyC_one (i := 13) (by kernel_rfl) rfl rfl (.inr HB4'.out) ?_
        go_simp
        refine anyC_end (by kernel_rfl) (.inl rfl) ?_
        by_cases hyx : og (exO l M b k) a = some x0
        · have hne : (Y != x0) = false := by rw [HYE.out hyx]; simp
          have HYX := Lib.hid hyx
          have hsize : IsSize l M a b k := ⟨by rw [← HOO.out, HX.out, hyx], fun j hj => by rw [← HOO.out, HX.out]; exact HNO.out j hj⟩
          have HSZ := Lib.hid hsize
          have HOWN : Hid (Own v4 (S + 1) 3 1 icell none 0 (intsOf [])) := Lib.hid (Own.nil _ _ _ (fun _ => rfl))
          rw [hne]
          clear hyx hsize g4 hne
          go_wp2_with fail
          go_loopw [9, 10, 8] (fun s9 s10 s8 wr => ∃ (left at_ : Nat) (A2 : Option Addr) (pn cap : Nat) (pl : List Nat), s8 = .int .i64 left ∧ s10 = .int .i64 at_ ∧ s9 = .slice A2 pn cap ∧ pl.length = pn ∧ pn + left ≤ k ∧ at_ < M ∧ wayF l M b k a = pl ++ wayF l M b left at_ ∧ (∃ x, og (exO l M b left) at_ = some x) ∧ Below S w wr ∧ Blk wr S 34 #[.int .i64 M, .slice A n c] ∧ Own wr (S + 1) 3 1 icell A2 cap (intsOf pl)) (fun _ _ s8 _ => (intOf s8).toNat)
          case atStart => exact ⟨k, a, none, 0, 0, [], rfl, rfl, rfl, rfl, by omega, haM, rfl, ⟨x0, HYX.out⟩, HBV.out, HKV.out, HOWN.out⟩
          case round =>
            clear HBV HKV HOWN HB HK HB3' HB4' hz3
            rename World => wr
            obtain ⟨left, at_, A2, pn, cap, pl, rfl, rfl, rfl, hpl, hpk, hatM, hway, hhas, hb, hk0, ho⟩ := hrel
            have hz := hb.size
            rw [← HS.out] at hz
            have hlt0 := hk0.lt
            have c0 := hk0.cell 0
            have c1 := hk0.cell 1
            have HB := Lib.hid hb
            have HK := Lib.hid hk0
            have HO := Lib.hid ho
            have HPL := Lib.hid hpl
            have HWAY := Lib.hid hway
            clear hb hk0 ho hpl hway
            by_cases hl0 : 0 < left
            · obtain ⟨lq, hlq⟩ : ∃ lq, left = lq + 1 := ⟨left - 1, by omega⟩
              obtain ⟨y0, hy0⟩ := hhas
              have hms2 : (left : Int) - 1 = (lq : Int) := by omega
              have hmw2 : IntKind.i64.wrap ((left : Int) - 1) = (lq : Int) := by rw [hms2]; exact IntWalk.i64_in _ (by omega)
              obtain ⟨i, hi, hwi, hbef, hstep, hnx⟩ := way_step HG.out (k := lq) (x := y0) (by rw [← hlq]; exact hy0)
              rw [← hlq] at hstep
              obtain ⟨e', he'⟩ : ∃ e', e' = l[i] := ⟨_, rfl⟩
              rw [← he'] at hwi hstep hnx
              have HEE := Lib.hid he'
              clear he'
              have hWB : ∀ e : Arc, wayB l M b lq at_ e = ((e.f.toNat == at_) && nextB (og (exO l M b lq) e.t.toNat) y0 e.e) := fun e => wayB_next (by rw [← hlq]; exact hy0) e
              have hin : i < n := by rw [← HL.out]; exact hi
              have hwant := HEX.out wr at_ left HB.out hatM (by omega)
              rw [hy0] at hwant
              have HWANT := Lib.hid hwant
              have hEXq : ∀ (v : World) (tt : Nat), Below S w v → tt < M → Calls Try.prog 37 #[.agg #[.int .i64 M, .slice A n c], .int .i64 tt, .int .i64 b, .int .i64 lq] v fun e w' => e = .returned (.int .i64 ((og (exO l M b lq) tt).getD farV)) ∧ Below v.heap.size v w' := fun v tt hb h => HEX.out v tt lq hb h (by omega)
              have HEXQ := Lib.hid hEXq
              have HWI := Lib.hid hwi
              have HBEF := Lib.hid hbef
              have HSTEP := Lib.hid hstep
              have HNX := Lib.hid hnx
              have HWB := Lib.hid hWB
              have HLQ := Lib.hid hlq
              have HII := Lib.hid hi
              clear hwi hbef hstep hnx hWB hlq hy0 hwant hEXq
              go_wp2_with fail
              refine HWANT.out.mono ?_
              clear HWANT
              rintro e v5 ⟨rfl, hb5⟩
              rw [show (some y0 : Option Int).getD farV = y0 from rfl]
              have hb5' := HB.out.trans (hb5.mono hz)
              have hk5 := HK.out.below hb5 hlt0
              have HB5 := Lib.hid hb5'
              have HK5 := Lib.hid hk5
              have HO5 := Lib.hid (HO.out.below hb5 (Nat.le_refl _))
              clear c0 c1
              have c0 := hk5.cell 0
              have c1 := hk5.cell 1
              clear hb5 hb5' hk5
              go_wp2_with fail
              go_loopw [9, 10, 56] (fun s9 s10 s56 w5 => ∃ (r : Nat), r ≤ i ∧ s9 = .slice A2 pn cap ∧ s10 = .int .i64 at_ ∧ s56 = .int .i64 r ∧ Below S w w5 ∧ Blk w5 S 34 #[.int .i64 M, .slice A n c] ∧ Own w5 (S + 1) 3 1 icell A2 cap (intsOf pl)) (fun _ _ s56 _ => n - (intOf s56).toNat)
              case atStart => exact ⟨0, by omega, rfl, rfl, rfl, HB5.out, HK5.out, HO5.out⟩
              case round =>
                clear HB HK HO HB5 HK5 HO5 c0 c1 hz hlt0
                rename World => w5
                obtain ⟨r, hri, rfl, rfl, rfl, hb, hk0, ho⟩ := hrel
                have hz := hb.size
                rw [← HS.out] at hz
                have hlt0 := hk0.lt
                have hrq : r < n := by omega
                have hkl : r < l.length := by rw [HL.out]; exact hrq
                obtain ⟨b0, off, hA0, hbb, q0, q1, q2, q3⟩ := (HR.out.below hb).at4 hkl
                subst hA0
                obtain ⟨e, he⟩ : ∃ e, e = l[r] := ⟨_, rfl⟩
                have hge : GoodA M e := by rw [he]; exact HG.out _ (List.getElem_mem hkl)
                have hbr : r < i → wayB l M b lq at_ e = false := fun h => by rw [he]; exact HBEF.out r hkl h
                have hbi : r = i → wayB l M b lq at_ e = true := fun h => by
                  have h2 : e = e' := by subst h; rw [he, HEE.out]
                  rw [h2]; exact HWI.out
                rw [← he] at q0 q1 q2 q3
                obtain ⟨f, hf⟩ := Int.eq_ofNat_of_zero_le hge.f0
                obtain ⟨tt, htt⟩ := Int.eq_ofNat_of_zero_le hge.t0
                have htM : tt < M := by have := hge.t1; omega
                have hwb := HWB.out e
                have hbd0 : ∀ x, og (exO l M b lq) tt = some x → -11534336 ≤ x ∧ x ≤ 11534336 := fun x h => by
                  have := exO_bound HG.out hbM h
                  omega
                have he0 := hge.e0
                have he1 := hge.e1
                rw [hf] at q0
                rw [htt] at q1
                rw [hf, htt] at hwb
                rw [hwb] at hbr hbi
                have het : r = i → e'.t.toNat = tt := fun h => by
                  have h2 : e = e' := by subst h; rw [he, HEE.out]
                  rw [← h2, htt]; rfl
                have HET := Lib.hid het
                obtain ⟨ae, hae⟩ : ∃ x, x = e.e := ⟨_, rfl⟩
                obtain ⟨am, ham⟩ : ∃ x, x = e.m := ⟨_, rfl⟩
                rw [← hae] at he0 he1 q3 hbr hbi
                rw [← ham] at q2
                have hE0 := Blk.new w5 70 #[.int .i64 f, .int .i64 tt, .int .i64 am, .int .i64 ae]
                have e0 := hE0.cell 0
                have e1 := hE0.cell 1
                have e3 := hE0.cell 3
                have hk00 := hk0.alloc (.cells #[.int .i64 f, .int .i64 tt, .int .i64 am, .int .i64 ae] 70)
                have k0 := hk00.cell 0
                have k1 := hk00.cell 1
                have c0 := hk0.cell 0
                have c1 := hk0.cell 1
                obtain ⟨W6, hW6⟩ : ∃ W6, W6 = w5.alloc (.cells #[.int .i64 f, .int .i64 tt, .int .i64 am, .int .i64 ae] 70) := ⟨_, rfl⟩
                have hb6 : Below S w W6 := by rw [hW6]; exact hb.alloc hz _
                have ho6 : Own W6 (S + 1) 3 1 icell A2 cap (intsOf pl) := by rw [hW6]; exact ho.alloc _
                have hk6 : Blk W6 S 34 #[.int .i64 M, .slice (some ⟨b0, off, none⟩) n c] := by rw [hW6]; exact hk00
                have hz66 : W6.heap.size = w5.heap.size + 1 := by rw [hW6, size_alloc']
                obtain ⟨Z, hZ⟩ : ∃ Z, Z = og (exO l M b lq) tt := ⟨_, rfl⟩
                rw [← hZ] at hbd0
                have hcall := HEXQ.out W6 tt hb6 htM
                rw [← hZ] at hcall
                have HCALL := Lib.hid hcall
                have hbr2 : r < i → ((((f : Int).toNat == at_) && nextB Z y0 ae) = false) := fun h => by rw [hZ]; exact hbr h
                have hbi2 : r = i → ((((f : Int).toNat == at_) && nextB Z y0 ae) = true) := fun h => by rw [hZ]; exact hbi h
                have HBR := Lib.hid hbr2
                have HBI := Lib.hid hbi2
                have HB6 := Lib.hid hb6
                have HO6 := Lib.hid ho6
                have HK6 := Lib.hid hk6
                have HW6 := Lib.hid hW6
                have hz6 : S ≤ W6.heap.size := by omega
                have hE6 : Blk W6 w5.heap.size 70 #[.int .i64 f, .int .i64 tt, .int .i64 am, .int .i64 ae] := by rw [hW6]; exact hE0
                have HE6 := Lib.hid hE6
                have HZ66 := Lib.hid hz66
                clear hE0 hE6 hZ hf htt hae ham he hge hwb hbr hbi hbr2 hbi2 hb hk0 ho hb6 ho6 hk6 hk00 hW6 het hcall hz66
                go_wp2_with fail
                rw [← HW6.out]
                refine HCALL.out.mono ?_
                clear HCALL
                rintro e w7 ⟨rfl, hb7⟩
                have hb7' := HB6.out.trans (hb7.mono hz6)
                have hE7 := HE6.out.below hb7 (by have := HZ66.out; omega)
                have hk7 := HK6.out.below hb7 (by have := HZ66.out; omega)
                have hz7 := hb7'.size
                rw [← HS.out] at hz7
                have HO7 := Lib.hid (HO6.out.below hb7 (Nat.le_refl _))
                have HB7 := Lib.hid hb7'
                have HK7 := Lib.hid hk7
                have HE7 := Lib.hid hE7
                clear e0 e1 e3 c0 c1 k0 k1
                have e0 := hE7.cell 0
                have e1 := hE7.cell 1
                have e3 := hE7.cell 3
                clear hb7 hb7' hE7 hk7 HB6 HK6 HO6 HE6
                by_cases hfa : f = at_
                · have hfa1 : ((f : Int) == (at_ : Int)) = true := by simp [hfa]
                  have HFA := Lib.hid hfa
                  clear hfa
                  cases Z with
                  | none =>
                    have hff : (none : Option Int).getD farV = 1152921504606846976 := rfl
                    rw [hff]
                    have hrl : r < i := by
                      rcases Nat.lt_or_ge r i with h | h
                      · exact h
                      · have := HBI.out (by omega)
                        rw [show nextB none y0 ae = false from rfl, Bool.and_false] at this
                        cases this
                    go_wp2_with fail
                    go_roundw
                    case rel => exact ⟨r + 1, by omega, rfl, rfl, by go_num, HB7.out, HK7.out, HO7.out⟩
                    case measure => simp [intOf]; omega
                  | some z =>
                    rw [show (some z : Option Int).getD farV = z from rfl]
                    have hz1 := hbd0 z rfl
                    have hzf : z < 1152921504606846976 := by omega
                    have hws : IntKind.i64.wrap (z + ae) = z + ae := IntWalk.i64_in _ (by omega)
                    by_cases hyz : z + ae = y0
                    · have hyz1 : ((z + ae) == y0) = true := by simp [hyz]
                      have hri2 : r = i := by
                        refine Classical.byContradiction fun hne => ?_
                        have := HBR.out (by omega)
                        rw [HFA.out, nextB_some, ← hyz] at this
                        simp at this
                      have HRI := Lib.hid hri2
                      have he8 : intsOf pl ++ [(r : Int)] = intsOf (pl ++ [r]) := by simp [intsOf]
                      have HE8 := Lib.hid he8
                      clear hyz hri2 he8
                      go_wp2_with (at_builtin; go_loud (refine wpList_push rfl _ _ _ rfl (S + 1) 1 3 (.int .i64 0) 8 Try.underlying23 (by kernel_rfl) rfl (by omega) icell w7 #[.int .i64 r] A2 pn cap (intsOf pl) (by rw [intsOf, List.length_map]; exact HPL.out) rfl HO7.out 1 [(r : Int)] rfl rfl _ rfl rfl (by simp [Value.oneCell']) (by unfold maxLen; omega) (by omega) (by have := HK7.out.lt; omega) ?_; intro A3 cap3 w8 hown3 hgrow3 hloc3; have g8 : w8.cell? ⟨w5.heap.size, 1, none⟩ = some (.int .i64 tt) := ((HE7.out.alloc _).grown hgrow3 (HO7.out.ne_blk HE7.out (by decide))).cell 1))
                      rw [HE8.out] at hown3
                      have hb8 := (HB7.out.alloc hz7 _).grown hgrow3 (by rw [size_alloc']; omega) (fun g hg => by have := (HO7.out.lt g hg).1; omega)
                      have hk8 := (HK7.out.alloc _).grown hgrow3 (fun e => by have := (HO7.out.lt S e.symm).1; omega)
                      have HB8 := Lib.hid hb8
                      have HK8 := Lib.hid hk8
                      have HO8 := Lib.hid hown3
                      clear hown3 hgrow3 hloc3 hb8 hk8
                      go_wp2_with fail
                      go_roundw
                      case rel => exact ⟨lq, tt, A3, pn + 1, cap3, pl ++ [r], by go_num, rfl, rfl, by rw [List.length_append, HPL.out]; rfl, by omega, htM, by rw [HWAY.out, HSTEP.out, HET.out HRI.out, ← HRI.out, List.append_assoc]; rfl, by rw [← HET.out HRI.out]; exact HNX.out, HB8.out, HK8.out, HO8.out⟩
                      case measure => simp [intOf]; omega
                    · have hyz1 : ((z + ae) == y0) = false := by simpa using hyz
                      have hrl : r < i := by
                        rcases Nat.lt_or_ge r i with h | h
                        · exact h
                        · have := HBI.out (by omega)
                          rw [Bool.and_eq_true] at this
                          have h3 := this.2
                          rw [nextB_some] at h3
                          have h2 : y0 = z + ae := beq_iff_eq.1 h3
                          exact absurd h2.symm hyz
                      clear hyz
                      go_wp2_with fail
                      go_roundw
                      case rel => exact ⟨r + 1, by omega, rfl, rfl, by go_num, HB7.out, HK7.out, HO7.out⟩
                      case measure => simp [intOf]; omega
                · have hfa1 : ((f : Int) == (at_ : Int)) = false := by simp; omega
                  have hrl : r < i := by
                    rcases Nat.lt_or_ge r i with h | h
                    · exact h
                    · have := HBI.out (by omega)
                      rw [Bool.and_eq_true] at this
                      have h2 : (f : Int).toNat = at_ := beq_iff_eq.1 this.1
                      exact absurd (by omega) hfa
                  clear hfa
                  go_wp2_with fail
                  go_roundw
                  case rel => exact ⟨r + 1, by omega, rfl, rfl, by go_num, HB7.out, HK7.out, HO7.out⟩
                  case measure => simp [intOf]; omega
            · obtain rfl : left = 0 := by omega
              have hfin : wayF l M b k a = pl := by rw [HWAY.out]; simp [wayF]
              have HFIN := Lib.hid hfin
              clear hfin
              go_wp2_with fail
              refine bodyPost_ret (v := .tuple #[.slice A2 pn cap, .bool true]) (by simp [results, Try.results18, go_sem]) rfl ?_
              exact ⟨A2, pn, cap, true, rfl, HB.out, fun h => (by rw [← HOK.out, ← HOO.out, HX.out] at h; rcases h with h | h <;> cases h), fun _ x _ => ⟨rfl, k, HSZ.out, by rw [HFIN.out, HPL.out], by rw [HFIN.out]; exact HO.out.els⟩⟩
        · have hne : (Y != x0) = true := by simpa using HYB.out hyx
          have hk1 : k + 1 < M := by
            obtain ⟨j, hj, he⟩ := HTH.out
            have : ¬ j < k := fun h => HNO.out j h he
            have : j ≠ k := fun h => hyx (h ▸ he)
            omega
          have hno2 : ∀ j, j < k + 1 → og (exO l M b j) a ≠ some x0 := fun j hj => by
            by_cases e : j = k
            · rw [e]; exact hyx
            · exact HNO.out j (by omega)
          have HNO2 := Lib.hid hno2
          clear hyx hno2 g4
          go_wp2_with fail
          go_roundw
          case rel => exact ⟨k + 1, by omega, by go_num, HBV.out, HKV.out, HNO2.out⟩
          case measure => simp [intOf]; omega
end Go.Proofs.Ytfaifadfilndmaa
