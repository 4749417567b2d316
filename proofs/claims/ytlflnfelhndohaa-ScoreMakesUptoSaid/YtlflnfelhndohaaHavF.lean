/- Making a graph out of degrees: the program's walk. Conditions: the degrees read as a list. -/
import Derived.Test.YtlflnfelhndohaaHavG
namespace Go.Proofs.Ytlflnfelhndohaa
open Go.RowKit Go.Shelf

set_option maxRecDepth 100000 in
set_option maxHeartbeats 2000000 in
theorem score_Make (sc : List Int) (A : Option Addr) (n c : Nat) (w : World) (hl : sc.length = n) (hn : n ≤ 10) (hr : Els w w.heap.size 1 icell A sc) :
    Calls Try.prog 22 #[.slice A n c] w fun e w' => MadeIs sc n e w' ∧ Below w.heap.size w w' := by
  obtain ⟨S, hS⟩ : ∃ S, S = w.heap.size := ⟨_, rfl⟩
  have hb0 := (Below.refl w.heap.size w).alloc (Nat.le_refl _) (.cells #[.int .i64 0, .slice none 0 0] 24)
  have hk0 := Blk.new w 24 #[.int .i64 0, .slice none 0 0]
  have hz0 : (w.alloc (.cells #[.int .i64 0, .slice none 0 0] 24)).heap.size = S + 1 := by rw [size_alloc', hS]
  have ho0 := Own.nil (w.alloc (.cells #[.int .i64 0, .slice none 0 0] 24)) (S + 1) 96 (c := 2) (f := Nd.cells) (fun _ => rfl)
  rw [← hS] at hb0 hk0 hr
  have HL := Lib.hid hl
  have HR := Lib.hid hr
  have HS := Lib.hid hS
  have HB0 := Lib.hid hb0
  have HK0 := Lib.hid hk0
  have HO0 := Lib.hid ho0
  have HZ0 := Lib.hid hz0
  have hn10 : ¬ (10 : Int) < (n : Int) := by omega
  clear hr hl hb0 hk0 ho0 hz0 hS
  go_enter Try.func22, Try.ntmps22
  go_wp2_with fail
  rw [← HS.out]
  go_loopw [16, 4, 3] (fun s16 s4 s3 wr => ∃ (i cap : Nat) (A4 : Option Addr), i ≤ n ∧ s16 = .int .i64 i ∧ s4 = .slice A4 i cap ∧ s3 = .int .i64 0 ∧ Below S w wr ∧ S + 1 ≤ wr.heap.size ∧ Blk wr S 24 #[.int .i64 0, .slice none 0 0] ∧ Own wr (S + 1) 96 2 Nd.cells A4 cap (nodesTo sc i) ∧ (i = 0 → A4 = none ∧ cap = 0) ∧ ∀ k, k < i → badD n (sc.getD k 0) = false) (fun s16 _ _ _ => n - (intOf s16).toNat)
  case atStart => exact ⟨0, 0, none, Nat.zero_le _, rfl, rfl, rfl, HB0.out, by rw [HZ0.out]; exact Nat.le_refl _, HK0.out, HO0.out, fun _ => ⟨rfl, rfl⟩, fun k hk => by omega⟩
  case round =>
    clear HB0 HK0 HO0 HZ0
    rename World => wr
    obtain ⟨i, cap, A4, hi, rfl, rfl, rfl, hb, hz, hk, hown, hnil, hgood⟩ := hrel
    by_cases hlt : i < n
    · have hil : i < sc.length := by rw [HL.out]; exact hlt
      obtain ⟨b, off, rfl, _, x0⟩ := (HR.out.below hb).at1 hil
      obtain ⟨x, hx⟩ : ∃ x, x = sc.getD i 0 := ⟨_, rfl⟩
      rw [← getD_at sc i hil 0, ← hx] at x0
      have c0 := hk.cell 0
      have c1 := hk.cell 1
      have f0 := hk.frozen 0
      have f1 := hk.frozen 1
      have HX := Lib.hid hx
      have HB := Lib.hid hb
      have HK := Lib.hid hk
      have HO := Lib.hid hown
      have HGD := Lib.hid hgood
      clear hb hk hown hgood hx
      by_cases hneg : x < 0
      · go_wp2_with fail
        obtain ⟨V, hV⟩ : ∃ V, V = (wr.setCell ⟨S, 0, none⟩ (.int .i64 0)).setCell ⟨S, 1, none⟩ (.slice none 0 0) := ⟨_, rfl⟩
        rw [← hV]
        have hv2 : Blk V S 24 #[.int .i64 0, .slice none 0 0] := by rw [hV]; exact (HK.out.put 0 (.int .i64 0)).put 1 (.slice none 0 0)
        have hbV : Below S w V := by rw [hV]; exact (HB.out.setCell (p := ⟨S, 0, none⟩) (Nat.le_refl _) _).setCell (p := ⟨S, 1, none⟩) (Nat.le_refl _) _
        have v0 := hv2.cell 0
        have v1 := hv2.cell 1
        refine bodyPost_ret (v := .tuple #[.agg #[.int .i64 0, .slice none 0 0], .int .i64 5]) (by simp [results, Try.results22, go_sem, v0, v1]) rfl ?_
        have hbad : badD n (sc.getD i 0) = true := by rw [← HX.out]; unfold badD; exact decide_eq_true (by omega)
        exact ⟨⟨fun _ => rfl, fun E h => by have := h i hlt; rw [hbad] at this; cases this⟩, by rw [← HS.out]; exact hbV⟩
      · by_cases hbig : (n : Int) ≤ x
        · go_wp2_with fail
          obtain ⟨V, hV⟩ : ∃ V, V = (wr.setCell ⟨S, 0, none⟩ (.int .i64 0)).setCell ⟨S, 1, none⟩ (.slice none 0 0) := ⟨_, rfl⟩
          rw [← hV]
          have hv2 : Blk V S 24 #[.int .i64 0, .slice none 0 0] := by rw [hV]; exact (HK.out.put 0 (.int .i64 0)).put 1 (.slice none 0 0)
          have hbV : Below S w V := by rw [hV]; exact (HB.out.setCell (p := ⟨S, 0, none⟩) (Nat.le_refl _) _).setCell (p := ⟨S, 1, none⟩) (Nat.le_refl _) _
          have v0 := hv2.cell 0
          have v1 := hv2.cell 1
          refine bodyPost_ret (v := .tuple #[.agg #[.int .i64 0, .slice none 0 0], .int .i64 5]) (by simp [results, Try.results22, go_sem, v0, v1]) rfl ?_
          have hbad : badD n (sc.getD i 0) = true := by rw [← HX.out]; unfold badD; exact decide_eq_true (by omega)
          exact ⟨⟨fun _ => rfl, fun E h => by have := h i hlt; rw [hbad] at this; cases this⟩, by rw [← HS.out]; exact hbV⟩
        · go_wp2_with (at_builtin; go_loud (refine wpList_push rfl _ _ _ rfl (S + 1) 2 96 (.agg #[.int .i64 0, .int .i64 0]) 16 Try.underlying94 (by kernel_rfl) rfl (by omega) Nd.cells _ #[.int .i64 i, .int .i64 x] A4 i cap _ (nodesTo_len sc i) rfl HO.out 1 [⟨i, x⟩] rfl rfl _ rfl (by simp) (by simp [Value.oneCell']) (by unfold maxLen; omega) (by omega) hz ?_; intro A5 cap5 w5 hown5 hgrow5 hloc5))
          refine ⟨⟨i + 1, cap5, A5, by omega, by go_num, rfl, rfl, (HB.out.alloc (Nat.le_trans (Nat.le_succ S) hz) _).grown hgrow5 (by rw [size_alloc']; omega) (fun g hg => ?_), Nat.le_trans (by rw [size_alloc']; omega) hgrow5.size, (HK.out.alloc _).grown hgrow5 (fun h => ?_), by rw [nodesTo_succ, ← HX.out]; exact hown5, fun h => absurd h (by omega), fun k hk => ?_⟩, by simp [intOf]; omega⟩
          · have := (HO.out.lt g hg).1; omega
          · have := (HO.out.lt S h.symm).1; omega
          · by_cases e : k = i
            · subst e; rw [← HX.out]; unfold badD; exact decide_eq_false (by omega)
            · exact HGD.out k (by omega)
    · obtain rfl : n = i := by omega
      obtain ⟨T, hT⟩ : ∃ T, T = wr.heap.size := ⟨_, rfl⟩
      have hST : S + 1 ≤ T := by omega
      have hk6 := hk.alloc (.cells #[.int .i64 n, .slice none 0 0] 24)
      have hb6 := hb.alloc (show S ≤ wr.heap.size by omega) (.cells #[.int .i64 n, .slice none 0 0] 24)
      have ho6 := hown.alloc (.cells #[.int .i64 n, .slice none 0 0] 24)
      have hg6 := Blk.new wr 24 #[.int .i64 n, .slice none 0 0]
      have hz6 : (wr.alloc (.cells #[.int .i64 n, .slice none 0 0] 24)).heap.size = T + 1 := by rw [size_alloc', hT]
      rw [← hT] at hg6
      obtain ⟨V, hV⟩ : ∃ V, V = wr.alloc (.cells #[.int .i64 n, .slice none 0 0] 24) := ⟨_, rfl⟩
      rw [← hV] at hk6 hb6 ho6 hg6 hz6
      have HV := Lib.hid hV
      have HTT := Lib.hid hT
      have HK6 := Lib.hid hk6
      have HB6 := Lib.hid hb6
      have HO6 := Lib.hid ho6
      have HG6 := Lib.hid hg6
      have HGD := Lib.hid hgood
      clear hk6 hb6 ho6 hg6 hV hT hk hb hown hgood
      go_wp2_with fail
      rw [← HV.out, ← HTT.out]
      have hst : MakeI sc n S T w (nodesTo sc n) [] none 0 A4 cap V := by
        refine ⟨⟨HB6.out, by omega, hST, HK6.out, HG6.out, Own.nil _ _ _ (fun _ => rfl)⟩, ?_, ?_, by rw [nodesTo_len]; exact Nat.le_refl _, Nat.zero_le _, fun a ha => ?_⟩
        · by_cases h0 : n = 0
          · left
            have hA := hnil h0
            subst h0
            exact ⟨hA.1, hA.2, rfl⟩
          · obtain ⟨g, hA, _⟩ := HO6.out.form_ (by rw [nodesTo_len]; omega)
            subst hA
            have hcl := HO6.out.cap_le
            rw [nodesTo_len] at hcl
            exact .inr ⟨g, 0, cap, [], rfl, by rw [nodesTo_len]; exact hcl, HO6.out, rfl⟩
        · rw [nodesTo_len]
          cases hkF (n + 1) (nodesTo sc n) <;> rfl
        · unfold nodesTo at ha
          obtain ⟨k, hk, rfl⟩ := List.mem_map.1 ha
          have hk := List.mem_range.1 hk
          have := HGD.out k hk
          unfold badD at this
          have := of_decide_eq_false this
          refine ⟨by show (0 : Int) ≤ k; omega, by show (k : Int) < n; omega, by show 0 ≤ sc.getD k 0; omega, by show sc.getD k 0 < n; omega⟩
      have HST := Lib.hid hst
      clear hst HB6 HK6 HG6 HO6
      clear hnil
      go_loopw [4, 3] (fun s4 s3 wr => ∃ (m : Nat) (L : List Nd) (E : List (Int × Int)) (Ae : Option Addr) (ce : Nat) (As : Option Addr) (cs : Nat), s4 = .slice As m cs ∧ L.length = m ∧ s3 = .int .i64 0 ∧ MakeI sc n S T w L E Ae ce As cs wr) (fun s4 _ _ => match s4 with | .slice _ k _ => k | _ => 0)
      case atStart => exact ⟨n, _, [], none, 0, A4, cap, rfl, nodesTo_len _ _, rfl, HST.out⟩
      case round =>
        clear HST HV
        rename World => wr
        obtain ⟨m, L, E, Ae, ce, As, cs, rfl, hm, rfl, hi⟩ := hrel
        have hmn : m ≤ n := by have := hi.lt; omega
        have HSORT := Lib.hid (sort_any L As m cs (S + 1) wr hm (by omega) (fun a ha => by have := hi.at_ a ha; omega) hi.nd (by have := hi.m.z; omega))
        have HI := Lib.hid hi
        have HM := Lib.hid hm
        clear hi hm
        go_wp2_with fail
        refine HSORT.out.mono ?_
        clear HSORT
        rintro e w1 ⟨⟨v, rfl⟩, hh, hnd⟩
        have hmk : MakeK n S T w E Ae ce w1 := by
          rcases HI.out.nd with ⟨rfl, _, _⟩ | ⟨g, o, cp, pre, rfl, _, ho⟩
          · have hb : Below wr.heap.size wr w1 := hh.to (Nat.le_refl _) (fun k hk => by cases hk)
            have hk := HI.out.m
            have h1 := hk.z
            have h2 := hk.st
            have h3 := hb.size
            exact ⟨hk.b.trans (hb.mono (by omega)), by omega, h2, hk.k.below hb hk.k.lt, hk.g.below hb hk.g.lt, hk.e.below hb (Nat.le_refl _)⟩
          · exact HI.out.m.held ho (Nat.le_refl _) hh
        have hlen : (srtN L).length = m := by rw [srtN_len, HM.out]
        have hokS : ∀ a ∈ srtN L, 0 ≤ a.i ∧ a.i < n ∧ 0 ≤ a.d ∧ a.d < n := fun a ha => HI.out.at_ a ((srtN_perm L).mem_iff.1 ha)
        have g0 := hmk.g.cell 0
        have g1 := hmk.g.cell 1
        have k0 := hmk.k.frozen 0
        have k1 := hmk.k.frozen 1
        have j0 := hmk.k.cell 0
        have j1 := hmk.k.cell 1
        cases hsr : srtN L with
        | nil =>
          rw [hsr] at hlen
          obtain rfl : 0 = m := hlen
          have hfin : hkF (n + 1) (nodesTo sc n) = some E := by
            rw [HI.out.hk, hkF, hsr]
            simp
          have HMK := Lib.hid hmk
          have HF := Lib.hid hfin
          clear hmk hfin hh hnd hsr hokS
          go_wp2_with fail
          obtain ⟨V2, hV2⟩ : ∃ V2, V2 = (w1.setCell ⟨S, 0, none⟩ (.int .i64 n)).setCell ⟨S, 1, none⟩ (.slice Ae E.length ce) := ⟨_, rfl⟩
          rw [← hV2]
          have hkk : Blk V2 S 24 #[.int .i64 n, .slice Ae E.length ce] := by rw [hV2]; exact (HMK.out.k.put 0 _).put 1 _
          have v0 := hkk.cell 0
          have v1 := hkk.cell 1
          refine bodyPost_ret (v := .tuple #[.agg #[.int .i64 n, .slice Ae E.length ce], .int .i64 0]) (by simp [results, Try.results22, go_sem, v0, v1]) rfl ?_
          rw [← HS.out]
          exact made_end HMK.out HGD.out HF.out rfl V2 hV2
        | cons t R =>
          rw [hsr] at hlen hokS hnd
          obtain ⟨r, hr⟩ : ∃ r, r = R.length := ⟨_, rfl⟩
          have hmr : r + 1 = m := by rw [← hlen, List.length_cons, hr]
          have hm0 : ((m : Int) == 0) = false := by simp; omega
          have ht := hokS t (List.mem_cons_self ..)
          have hnd2 : ∃ g o cp pre, As = some ⟨g, o, none⟩ ∧ m ≤ cs ∧ OwnAt w1 (S + 1) g o cp pre (t :: R) := by
            rcases hnd with ⟨_, _, h⟩ | ⟨g, o, cp, pre, h1, h2, h3⟩
            · cases h
            · exact ⟨g, o, cp, pre, h1, by rw [← hlen]; exact h2, h3⟩
          obtain ⟨g, o, cp, pre, rfl, hcs, hown⟩ := hnd2
          obtain ⟨hg1, hg2, a0, a1, fz⟩ := hown.cell (k := 0) (by simp)
          simp only [Nat.zero_mul, Nat.add_zero, List.getElem_cons_zero] at a0 a1
          have hi0 : (0 : Int) < (m : Int) := by omega
          have HM0 := Lib.hid hm0
          have HMK := Lib.hid hmk
          have HMR := Lib.hid hmr
          have HRR := Lib.hid hr
          have HOW := Lib.hid hown
          have HSR := Lib.hid hsr
          have HOK := Lib.hid hokS
          have HT := Lib.hid ht
          by_cases htd : t.d = 0
          · have hfin : hkF (n + 1) (nodesTo sc n) = some E := by
              rw [HI.out.hk, hkF, hsr]
              show (if t.d = 0 then some [] else _ : Option _).map _ = _
              rw [if_pos htd]
              simp
            have hd0 : (t.d == 0) = true := by simp [htd]
            have HF := Lib.hid hfin
            obtain ⟨td, htd'⟩ : ∃ td, td = t.d := ⟨_, rfl⟩
            rw [← htd'] at a1 hd0
            clear hmk hfin hh hnd hsr hlen hokS hmr hr hown ht htd htd' hcs hg1 hg2 fz
            go_wp2_with fail
            obtain ⟨V2, hV2⟩ : ∃ V2, V2 = (w1.setCell ⟨S, 0, none⟩ (.int .i64 n)).setCell ⟨S, 1, none⟩ (.slice Ae E.length ce) := ⟨_, rfl⟩
            rw [← hV2]
            have hkk : Blk V2 S 24 #[.int .i64 n, .slice Ae E.length ce] := by rw [hV2]; exact (HMK.out.k.put 0 _).put 1 _
            have v0 := hkk.cell 0
            have v1 := hkk.cell 1
            refine bodyPost_ret (v := .tuple #[.agg #[.int .i64 n, .slice Ae E.length ce], .int .i64 0]) (by simp [results, Try.results22, go_sem, v0, v1]) rfl ?_
            rw [← HS.out]
            exact made_end HMK.out HGD.out HF.out rfl V2 hV2
          · have hd0 : (t.d == 0) = false := by simp [htd]
            have HTD := Lib.hid htd
            obtain ⟨td, htd'⟩ : ∃ td, td = t.d := ⟨_, rfl⟩
            obtain ⟨ti, hti'⟩ : ∃ ti, ti = t.i := ⟨_, rfl⟩
            rw [← htd'] at a1 hd0
            rw [← hti'] at a0
            have HTE := Lib.hid htd'
            have HTI := Lib.hid hti'
            have hkF0 := Blk.new w1 96 #[.int .i64 ti, .int .i64 td]
            have hFz : (w1.alloc (.cells #[.int .i64 ti, .int .i64 td] 96)).heap.size = w1.heap.size + 1 := size_alloc' _ _
            have hmk2 := hmk.alloc (.cells #[.int .i64 ti, .int .i64 td] 96)
            have hown2 : OwnAt (w1.alloc (.cells #[.int .i64 ti, .int .i64 td] 96)) (S + 1) g o cp pre (t :: R) := ⟨hown.own.alloc _, hown.off⟩
            have hct : ∀ W0 : World, (Instr.slice 94 (.slice (some ⟨g, o, none⟩) m cs) (some (.int .i64 1)) none none).run Try.prog W0 = .ok (.slice (if cs = 1 then some ⟨g, o, none⟩ else (some ⟨g, o, none⟩ : Option Addr).map (·.add (1 * 2))) (m - 1) (cs - 1)) W0 := fun W0 => run_tail2 Try.underlying94 (fun w => by kernel_rfl) (some ⟨g, o, none⟩) m cs 1 (by omega) hcs (by omega) W0
            have hm1 : m - 1 = r := by omega
            obtain ⟨A9, hA9⟩ : ∃ A9, A9 = (if cs = 1 then some ⟨g, o, none⟩ else (some ⟨g, o, none⟩ : Option Addr).map (·.add (1 * 2))) := ⟨_, rfl⟩
            rw [← hA9, hm1] at hct
            have hA9' : cs ≠ 1 → A9 = some ⟨g, o + 2, none⟩ := fun hne => by
              rw [hA9, if_neg hne]
              show some (Addr.add ⟨g, o, none⟩ (1 * 2)) = _
              rw [addr_add]
            have HA9 := Lib.hid hA9'
            have f1 := hkF0.cell 1
            have p0 := hmk2.k.cell 0
            have p1 := hmk2.k.cell 1
            have q0 := hmk2.k.frozen 0
            have q1 := hmk2.k.frozen 1
            have HK2 := Lib.hid hkF0
            have HZ2 := Lib.hid hFz
            have HM2 := Lib.hid hmk2
            have HO2 := Lib.hid hown2
            have HCS := Lib.hid hcs
            by_cases hrd : (r : Int) < td
            · have hno : hkF (n + 1) (nodesTo sc n) = none := by
                rw [HI.out.hk, hkF, hsr]
                show (if t.d = 0 then some [] else if R.length < t.d.toNat then none else _ : Option _).map _ = _
                rw [if_neg htd, if_pos (by omega)]
                rfl
              have HNO := Lib.hid hno
              clear hmk hno hh hnd hsr hlen hokS hmr hr hown ht htd htd' hti' hcs hg1 hg2 fz hkF0 hFz hmk2 hown2 hA9 hA9' hm1 hm0 j0 j1 k0 k1
              go_wp2_with fail
              obtain ⟨V2, hV2⟩ : ∃ V2, V2 = ((w1.alloc (.cells #[.int .i64 ti, .int .i64 td] 96)).setCell ⟨S, 0, none⟩ (.int .i64 0)).setCell ⟨S, 1, none⟩ (.slice none 0 0) := ⟨_, rfl⟩
              rw [← hV2]
              have hkk : Blk V2 S 24 #[.int .i64 0, .slice none 0 0] := by rw [hV2]; exact (HM2.out.k.put 0 _).put 1 _
              have v0 := hkk.cell 0
              have v1 := hkk.cell 1
              refine bodyPost_ret (v := .tuple #[.agg #[.int .i64 0, .slice none 0 0], .int .i64 5]) (by simp [results, Try.results22, go_sem, v0, v1]) rfl ?_
              rw [← HS.out]
              exact ⟨made_no HNO.out rfl, by rw [hV2]; exact (HM2.out.b.setCell (p := ⟨S, 0, none⟩) (Nat.le_refl _) _).setCell (p := ⟨S, 1, none⟩) (Nat.le_refl _) _⟩
            · obtain ⟨d, hd⟩ : ∃ d : Nat, td = d := ⟨td.toNat, by omega⟩
              subst hd
              have hdr : d ≤ r := by omega
              have hd1 : 1 ≤ d := by have := ht.2.2.1; omega
              have hcs1 : cs ≠ 1 := by omega
              have hd10 : d ≤ 10 := by omega
              have hown3 : OwnAt (w1.alloc (.cells #[.int .i64 ti, .int .i64 d] 96)) (S + 1) g (o + 2) cp (pre ++ [t]) R := by
                refine ⟨?_, by rw [List.length_append, List.length_singleton, hown2.off]; omega⟩
                have e : pre ++ [t] ++ R = pre ++ t :: R := by simp
                rw [e]; exact hown2.own
              have HO3 := Lib.hid hown3
              have HCS1 := Lib.hid hcs1
              rw [hA9' hcs1] at hct
              clear hmk hh hnd hsr hlen hokS hmr hr hown ht htd htd' hti' hcs hg1 hg2 fz hkF0 hFz hmk2 hown2 hA9 hA9' hm1 hm0 j0 j1 k0 k1 p0 p1 q0 q1 hown3 hcs1 HA9 HO2
              go_wp2_with fail
              obtain ⟨F, hF⟩ : ∃ F, F = w1.heap.size := ⟨_, rfl⟩
              obtain ⟨W2, hW2⟩ : ∃ W2, W2 = w1.alloc (.cells #[.int .i64 ti, .int .i64 d] 96) := ⟨_, rfl⟩
              rw [← hF, ← hW2] at HK2
              rw [← hF, ← hW2] at HZ2
              rw [← hW2] at HM2 HO3
              rw [← hF, ← hW2]
              rw [HM0.out, show decide (r < d) = false from decide_eq_false (by omega)]
              have HF := Lib.hid hF
              have HW2 := Lib.hid hW2
              clear f1 hF hW2 hct g0 g1 a0 a1
              go_loopw [66, 3] (fun s66 s3 wr => ∃ (k : Nat) (E3 : List (Int × Int)) (Ae3 : Option Addr) (ce3 : Nat), k ≤ d ∧ s66 = .int .i64 k ∧ s3 = .int .i64 0 ∧ E3 = E ++ (R.take k).map (fun a => (ti, a.i)) ∧ MakeK n S T w E3 Ae3 ce3 wr ∧ Blk wr F 96 #[.int .i64 ti, .int .i64 d] ∧ OwnAt wr (S + 1) g (o + 2) cp (pre ++ [t]) (decN k R) ∧ ∀ a ∈ R.take k, 0 < a.d) (fun s66 _ _ => d - (intOf s66).toNat)
              case atStart => exact ⟨0, E, Ae, ce, Nat.zero_le _, rfl, rfl, by simp, HM2.out, HK2.out, by rw [decN_zero]; exact HO3.out, fun a ha => by simp at ha⟩
              case round =>
                clear HM2 HK2 HO3 HZ2 HW2
                rename World => wr
                obtain ⟨k, E3, Ae3, ce3, hkd, rfl, rfl, hE3, hmk, hkF0, hown, hpos⟩ := hrel
                by_cases hlt : k < d
                · have hrR := HRR.out
                  have hkR : k < R.length := by omega
                  have hkl : k < (decN k R).length := by rw [decN_len]; exact hkR
                  have hy := HOK.out R[k] (List.mem_cons_of_mem _ (List.getElem_mem hkR))
                  obtain ⟨hg1, hg2, a0, a1, fz⟩ := hown.cell (k := k) hkl
                  have hput := hown.put_d hkl (R[k].d - 1)
                  have e9 := decN_get hkR
                  rw [e9] at a0 a1 hput
                  rw [decN_set hkR] at hput
                  obtain ⟨y, hyy⟩ : ∃ y, y = R[k] := ⟨_, rfl⟩
                  obtain ⟨yi, hyi⟩ : ∃ yi, yi = R[k].i := ⟨_, rfl⟩
                  obtain ⟨yd, hyd⟩ : ∃ yd, yd = R[k].d := ⟨_, rfl⟩
                  rw [← hyi] at a0
                  rw [← hyd] at a1 hput
                  rw [← hyi, ← hyd] at hy
                  have hld : Held [g] wr (wr.setCell ⟨g, o + 2 + k * 2 + 1, none⟩ (.int .i64 (yd - 1))) := Held.setCell (p := ⟨g, o + 2 + k * 2 + 1, none⟩) (Held.refl [g] wr) (List.mem_singleton.2 rfl) _
                  have hmk4 := hmk.held hown (Nat.le_refl _) hld
                  have hFg : F ∉ [g] := fun hm => by
                    have h1 := List.mem_singleton.1 hm
                    have h2 := hkF0
                    rw [h1] at h2
                    have h3 := HF.out
                    have h4 := HOW.out.own.lt g rfl
                    omega
                  have hkF4 := Blk.held hld hkF0 hFg
                  have hkl4 : k < (decN (k + 1) R).length := by rw [decN_len]; exact hkR
                  obtain ⟨_, _, b0, b1, _⟩ := hput.cell (k := k) hkl4
                  have e10 : (decN (k + 1) R)[k] = ⟨yi, yd - 1⟩ := by
                    have h5 : (decN (k + 1) R)[k]? = some ⟨yi, yd - 1⟩ := by
                      rw [← decN_set hkR, List.getElem?_set_self (by rw [decN_len]; exact hkR), hyi, hyd]
                    rw [List.getElem?_eq_getElem hkl4] at h5
                    exact Option.some.inj h5
                  rw [e10] at b0 b1
                  have hwr : IntKind.i64.wrap (yd - 1) = yd - 1 := IntWalk.i64_in _ (by omega)
                  have fz1 := fz (o + 2 + k * 2 + 1)
                  have hx0 : (0 : Int) ≤ (k : Int) := by omega
                  have hx1 : (k : Int) < (r : Int) := by omega
                  have hx2 : (k : Int) < (d : Int) := by omega
                  have p0 := hmk4.k.cell 0
                  have p1 := hmk4.k.cell 1
                  have q0 := hmk4.k.frozen 0
                  have q1 := hmk4.k.frozen 1
                  have HE3 := Lib.hid hE3
                  have HM4 := Lib.hid hmk4
                  have HK4 := Lib.hid hkF4
                  have HO4 := Lib.hid hput
                  have HPOS := Lib.hid hpos
                  have HYI : Hid (∀ h : k < R.length, yi = R[k].i) := Lib.hid fun _ => hyi
                  have HYD : Hid (∀ h : k < R.length, yd = R[k].d) := Lib.hid fun _ => hyd
                  have HYB := Lib.hid hy
                  have HKR := Lib.hid hkR
                  have HB0 := Lib.hid b0
                  have HLT := Lib.hid hlt
                  by_cases hneg : yd - 1 < 0
                  · have hno : hkF (n + 1) (nodesTo sc n) = none := by
                      rw [HI.out.hk, hkF, HSR.out]
                      show (if t.d = 0 then some [] else if R.length < t.d.toNat then none else if (R.take t.d.toNat).any (fun a => decide (a.d ≤ 0)) = true then none else _ : Option _).map _ = _
                      have hte := HTE.out
                      rw [if_neg HTD.out, if_neg (by omega), if_pos]
                      · rfl
                      · refine List.any_eq_true.2 ⟨R[k], ?_, decide_eq_true (by omega)⟩
                        rw [List.mem_take_iff_getElem]
                        exact ⟨k, by omega, rfl⟩
                    have HNO := Lib.hid hno
                    clear hno hrR hkR hkl hy e9 hyy hyi hyd hmk4 hkF4 hkl4 b0 e10 hput hE3 hmk hkF0 hown hpos hld hFg hg1 hg2 fz a0
                    go_wp2_with fail
                    obtain ⟨V2, hV2⟩ : ∃ V2, V2 = ((wr.setCell ⟨g, o + 2 + k * 2 + 1, none⟩ (.int .i64 (yd - 1))).setCell ⟨S, 0, none⟩ (.int .i64 0)).setCell ⟨S, 1, none⟩ (.slice none 0 0) := ⟨_, rfl⟩
                    rw [← hV2]
                    have hkk : Blk V2 S 24 #[.int .i64 0, .slice none 0 0] := by rw [hV2]; exact (HM4.out.k.put 0 _).put 1 _
                    have v0 := hkk.cell 0
                    have v1 := hkk.cell 1
                    refine bodyPost_ret (v := .tuple #[.agg #[.int .i64 0, .slice none 0 0], .int .i64 5]) (by simp [results, Try.results22, go_sem, v0, v1]) rfl ?_
                    rw [← HS.out]
                    exact ⟨made_no HNO.out rfl, by rw [hV2]; exact (HM4.out.b.setCell (p := ⟨S, 0, none⟩) (Nat.le_refl _) _).setCell (p := ⟨S, 1, none⟩) (Nat.le_refl _) _⟩
                  · have HNEG := Lib.hid hneg
                    have hl3 : E3.length ≤ 200 := by
                      have h1 := HI.out.sz
                      have h2 := HM.out
                      have h3 := HMR.out
                      have h4 := HI.out.lt
                      rw [hE3, List.length_append, List.length_map, List.length_take]
                      omega
                    have t1 := hmk4.g.cell 1
                    have F0 := hkF4.cell 0
                    clear hrR hkR hkl hy e9 hyy hyi hyd hmk4 hkF4 hkl4 e10 hput hE3 hmk hkF0 hown hpos hld hFg hg1 hg2 fz a0 p0 p1 q0 q1
                    go_wp2_with fail
                    obtain ⟨W4, hW4⟩ : ∃ W4, W4 = wr.setCell ⟨g, o + 2 + k * 2 + 1, none⟩ (.int .i64 (yd - 1)) := ⟨_, rfl⟩
                    rw [← hW4] at HM4 HK4 HO4 HB0 b0 t1 F0 ⊢
                    clear b1 a1 fz1 HB0 hW4
                    have HSZ : Hid ((edE E3).length = E3.length) := Lib.hid (edE_len E3)
                    refine region_plain 11 14 (fun w' => w'.cell? ⟨T, 1, none⟩ = some (.slice Ae3 E3.length ce3) ∧ w'.cell? ⟨F, 0, none⟩ = some (.int .i64 ti) ∧ w'.cell? ⟨g, o + 2 + k * 2, none⟩ = some (.int .i64 yi)) (by kernel_rfl) rfl ?_
                    refine anyC_reads (by kernel_rfl) [0, 1, 2, 3, 4, 5, 6, 7, 8, 9] ?opc ?ohc 4 _ _ _ (by kernel_rfl) ?okc
                    case ohc => (simp only [List.filterMap_cons, List.filterMap_nil, List.getElem?_toArray, List.getElem?_cons_zero, List.getElem?_cons_succ]; try rfl)
                    repeat (
                      refine readC_step (v := ?_) rfl (fun w' hw' => ?_) ?_
                      rotate_left
                      focus (obtain ⟨n1, n2, n3⟩ := hw'; go_simp; try with_reducible rfl)
                      go_simp)
                    refine readC_nil ?_
                    have hlit := Blk.new W4 69 #[.int .i64 ti, .int .i64 yi, .int .i64 0]
                    have HLIT := Lib.hid hlit
                    have hmk5 := (HM4.out.alloc (.cells #[.int .i64 ti, .int .i64 yi, .int .i64 0] 69)).drew
                    have hkF5 := (HK4.out.alloc (.cells #[.int .i64 ti, .int .i64 yi, .int .i64 0] 69)).drew
                    have hown5 : OwnAt (W4.alloc (.cells #[.int .i64 ti, .int .i64 yi, .int .i64 0] 69)).drew (S + 1) g (o + 2) cp (pre ++ [t]) (decN (k + 1) R) := ⟨(HO4.out.own.alloc _).drew, HO4.out.off⟩
                    have HM5 := Lib.hid hmk5
                    have HK5 := Lib.hid hkF5
                    have HO5 := Lib.hid hown5
                    have hcl5 := (hown5.cell (k := k) (by rw [decN_len]; exact HKR.out)).2.2.1
                    have hcls : (W4.alloc (.cells #[.int .i64 ti, .int .i64 yi, .int .i64 0] 69)).drew.cell? ⟨g, o + 2 + k * 2, none⟩ = some (.int .i64 yi) := by
                      have h1 : W4.drew.cell? ⟨g, o + 2 + k * 2, none⟩ = some (.int .i64 yi) := b0
                      have h2 := (HO4.out.cell (k := k) (by rw [decN_len]; exact HKR.out)).2.2.1
                      have h3 : some (Value.int .i64 yi) = some (Value.int .i64 ((decN (k + 1) R)[k]'(by rw [decN_len]; exact HKR.out)).i) := b0.symm.trans h2
                      rw [hcl5, ← h3]
                    have HC5 := Lib.hid hcls
                    clear hlit hmk5 hkF5 hown5 hcl5 hcls
                    refine anyC_one (i := 10) (by kernel_rfl) rfl rfl (.inr ⟨t1, F0, b0⟩) ?_
                    go_simp
                    refine anyC_one (i := 11) (by kernel_rfl) rfl rfl (.inr ⟨HM5.out.g.cell 1, HK5.out.cell 0, HC5.out⟩) ?_
                    refine wp_append_els _ _ 22 rfl (T + 1) 3 69 (.agg #[.int .i64 0, .int .i64 0, .int .i64 0]) 24 Try.underlying22 (by kernel_rfl) rfl (by omega) Ed.cells _ Ae3 E3.length ce3 (edE E3) HSZ.out rfl HM5.out.e _ 1 1 [⟨ti, yi, 0⟩] rfl rfl _ (els_of_blk HLIT.out.drew 3 Ed.cells (fun _ => rfl) [⟨ti, yi, 0⟩] rfl) (by simp [Value.oneCell', Ed.cells]) (by unfold maxLen; omega) (by omega) HM5.out.z ?_
                    intro A6 cap6 w6 hown6 hgrow6 hloc6
                    have hmk6 := HM5.out.push (p := (ti, yi)) hown6 hgrow6
                    have hne6 : ∀ q, blkOf Ae3 = some q → Ae3 = some ⟨q, 0, none⟩ := fun q hq => HM5.out.e.some_ hq
                    have hgT : g ≠ T := own_blk_ne HO5.out.own HM5.out.g (by decide)
                    have hFT : F ≠ T := HK5.out.differ HM5.out.g (by decide)
                    have hkF6 := (HK5.out.grown hgrow6 (fun e => by
                      have h1 := HM5.out.e
                      rw [hne6 F e.symm] at h1
                      exact own_blk_ne h1 HK5.out (by decide) rfl)).far (p := ⟨T, 1, none⟩) hFT (.slice A6 (E3.length + 1) cap6)
                    have hown7 : OwnAt (w6.setCell ⟨T, 1, none⟩ (.slice A6 (E3.length + 1) cap6)) (S + 1) g (o + 2) cp (pre ++ [t]) (decN (k + 1) R) := by
                      refine ⟨(HO5.out.own.kept hgrow6 (.inr ?_)).far (p := ⟨T, 1, none⟩) ?_ _, HO5.out.off⟩
                      · intro e
                        have h1 := HM5.out.e
                        rw [hne6 g (by rw [← e]; rfl)] at h1
                        exact own_own_ne HO5.out.own h1 (by decide) rfl
                      · intro e
                        exact hgT (by simpa [blkOf] using e)
                    have t6 := (HM5.out.g.grown hgrow6 (fun e => by have := (HM5.out.e.lt T e.symm).1; omega)).cell 1
                    have tf6 := (HM5.out.g.grown hgrow6 (fun e => by have := (HM5.out.e.lt T e.symm).1; omega)).frozen 1
                    have HM6 := Lib.hid hmk6
                    have HK6 := Lib.hid hkF6
                    have HO6 := Lib.hid hown7
                    clear hmk6 hkF6 hown7 hown6 hgrow6 hloc6 hne6 hgT hFT t1 F0 b0
                    go_simp
                    refine anyC_one (i := 12) (by kernel_rfl) rfl rfl (.inl rfl) ?_
                    go_simp
                    refine anyC_one (i := 13) (by kernel_rfl) rfl rfl (.inl rfl) ?_
                    go_simp
                    refine anyC_end (by kernel_rfl) (.inl rfl) ?_
                    go_wp2_with fail
                    go_roundw
                    case rel =>
                      have hkR := HKR.out
                      have hlt := HLT.out
                      refine ⟨k + 1, E3 ++ [(ti, yi)], A6, cap6, by omega, by go_num, rfl, ?_, HM6.out, HK6.out, HO6.out, fun a ha => ?_⟩
                      · rw [HE3.out, List.take_succ_eq_append_getElem hkR, List.map_append, List.append_assoc, HYI.out hkR]
                        rfl
                      · rw [List.take_succ_eq_append_getElem hkR] at ha
                        rcases List.mem_append.1 ha with ha | ha
                        · exact HPOS.out a ha
                        · rw [List.mem_singleton.1 ha, ← HYD.out hkR]
                          have := HNEG.out
                          omega
                    case measure => have := HLT.out; simp [intOf]; omega
                · obtain rfl : d = k := by omega
                  have hte := HTE.out
                  have hti := HTI.out
                  have hrr := HRR.out
                  have hmr := HMR.out
                  have hcs := HCS.out
                  have e1 : t.d.toNat = d := by omega
                  have hhk : hkF (n + 1) (nodesTo sc n) = (hkF ((decN d R).length + 1) (decN d R)).map (E3 ++ ·) := by
                    rw [HI.out.hk, HM.out, ← hmr, hkF, HSR.out]
                    show Option.map _ (if t.d = 0 then some [] else if R.length < t.d.toNat then none else if (R.take t.d.toNat).any (fun a => decide (a.d ≤ 0)) = true then none else (hkF (r + 1) (decN t.d.toNat R)).map fun E => (R.take t.d.toNat).map (fun a => (t.i, a.i)) ++ E) = _
                    rw [if_neg HTD.out, if_neg (by omega), e1, if_neg, Option.map_map, decN_len, ← hrr, hE3, hti]
                    · congr 1
                      funext x
                      simp
                    · intro ha
                      obtain ⟨a, ha1, ha2⟩ := List.any_eq_true.1 ha
                      have := hpos a ha1
                      have := of_decide_eq_true ha2
                      omega
                  have hnx : MakeI sc n S T w (decN d R) E3 Ae3 ce3 (some ⟨g, o + 2, none⟩) (cs - 1) wr := by
                    have hsz := HI.out.sz
                    have hm9 := HM.out
                    have ht9 := HT.out
                    refine ⟨hmk, .inr ⟨g, o + 2, cp, pre ++ [t], rfl, by rw [decN_len]; omega, hown⟩, hhk, by rw [decN_len]; omega, by rw [hE3, List.length_append, List.length_map, List.length_take, decN_len]; omega, fun a ha => ?_⟩
                    unfold decN at ha
                    rcases List.mem_append.1 ha with ha | ha
                    · obtain ⟨b, hb, rfl⟩ := List.mem_map.1 ha
                      have h1 := HOK.out b (List.mem_cons_of_mem _ (List.mem_of_mem_take hb))
                      have h2 := hpos b hb
                      refine ⟨h1.1, h1.2.1, by show 0 ≤ b.d - 1; omega, by show b.d - 1 < n; omega⟩
                    · exact HOK.out a (List.mem_cons_of_mem _ (List.mem_of_mem_drop ha))
                  have HNX := Lib.hid hnx
                  clear hte hti hrr hmr hcs e1 hhk hnx hmk hkF0 hown hpos hE3
                  go_wp2_with fail
                  go_roundw
                  case rel => exact ⟨r, decN d R, E3, Ae3, ce3, _, _, rfl, by rw [decN_len, ← HRR.out], rfl, HNX.out⟩
                  case measure => have := HMR.out; show r < m; omega
end Go.Proofs.Ytlflnfelhndohaa
