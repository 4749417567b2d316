/- The document's crew. Conditions: workers, services and changes read as lists. -/
import Derived.Test.YtdinknpagklkjaaCrewPlays23
import Derived.Test.YtdinknpagklkjaaCrewPlays24
namespace Go.Proofs.Ytdinknpagklkjaa
open Go.RowKit
section
variable {P : Program} {md : Region.Mode} {ops : Array Oper} {z : Nat} {C : World → Prop} {Q : Act → World → Prop}
theorem anyD_three {i j k : Nat} {oi oj ok : Oper} {fuel : Nat} {listed : Array Bool} {a : Act} {w : World} (hr : Region.ready md ops listed = [i, j, k]) (hi : ops[i]? = some oi) (hj : ops[j]? = some oj) (hk : ops[k]? = some ok) (hwi : Region.wanted oi (yielded ops a.tmps) = true) (hwj : Region.wanted oj (yielded ops a.tmps) = true) (hwk : Region.wanted ok (yielded ops a.tmps) = true) (hC : listed.getD z false = true ∨ C w)
    (h1 : oi.wp P a w (anyC P md ops z C Q fuel (listed.setIfInBounds i true)) noP) (h2 : oj.wp P a w (anyC P md ops z C Q fuel (listed.setIfInBounds j true)) noP) (h3 : ok.wp P a w (anyC P md ops z C Q fuel (listed.setIfInBounds k true)) noP) : anyC P md ops z C Q (fuel + 1) listed a w :=
  ⟨hC, fun h0 => (by rw [hr] at h0; cases h0), fun q hq => by
    rw [hr] at hq
    simp only [List.mem_cons, List.not_mem_nil, or_false] at hq
    rcases hq with rfl | rfl | rfl
    · exact ⟨oi, hi, .inl ⟨hwi, h1⟩⟩
    · exact ⟨oj, hj, .inl ⟨hwj, h2⟩⟩
    · exact ⟨ok, hk, .inl ⟨hwk, h3⟩⟩⟩
end
attribute [local go_sem ↓] w_and w_or w_xor w_andNot w_and1 w_and255 w_xor1 w_or0 w_shl w_shl1 w_shr w_sub w_add w_sub1 w_add1
attribute [local go_sem] w_eq0 w_ne0 w_eq1 w_eq w_ne
attribute [local go_sem] Oper.semAt_some

/-- While a script is played: k changes done. -/
def PlayJ (S P : Nat) (m gw gt : Nat) (ws : List Wk) (svs : List (BitVec 32)) (script : List Chg) (w0' : World) (s : Value) (wr : World) : Prop :=
  ∃ (k : Nat) (Ac : Option Addr) (kc : Nat) (rows : List (Sls Int)), k ≤ script.length ∧ s = .int .i64 k ∧ Below (S + 1) w0' wr ∧ CrefIn wr (S + 1) P m gw gt Ac kc rows (playF ws svs (script.take k)) ∧ Blk wr S 30 #[.slice none 0 0, .int .u32 0, .slice none 0 0, .slice none 0 0]
set_option maxRecDepth 100000 in
set_option maxHeartbeats 4000000 in
theorem ref_Crew (A B C : Option Addr) (W cA m cB L cC : Nat) (ws : List Wk) (svs : List (BitVec 32)) (script : List Chg) (w : World) (hW : ws.length = W) (hM : svs.length = m) (hL : script.length = L) (hws : Els w w.heap.size 2 wkcell A ws) (hts : Els w w.heap.size 1 wcell B svs) (hcs : Els w w.heap.size 3 chcell C script) (hW6 : W ≤ 6) (hm12 : m ≤ 12) (hL64 : L ≤ 64) (hgood : ∀ k ∈ ws, 0 ≤ k.1 ∧ k.1 ≤ 12) :
    Calls Try.prog 41 #[.slice A W cA, .slice B m cB, .slice C L cC] w fun e w' => Below w.heap.size w w' ∧ ∃ P gw gt Ac kc rows, CrefIn w' w.heap.size P m gw gt Ac kc rows (playF ws svs script) ∧ e = .returned (.agg #[.slice Ac L kc, .int .u32 (wN (playF ws svs script).inn), .slice (some ⟨gw, 0, none⟩) m m, .slice (some ⟨gt, 0, none⟩) m m]) := by
  obtain ⟨S, hS⟩ : ∃ S, S = w.heap.size := ⟨_, rfl⟩
  have hk := Blk.new w 30 #[.slice none 0 0, .int .u32 0, .slice none 0 0, .slice none 0 0]
  have hb := (Below.refl w.heap.size w).alloc (Nat.le_refl _) (.cells #[.slice none 0 0, .int .u32 0, .slice none 0 0, .slice none 0 0] 30)
  have hz : (w.alloc (.cells #[.slice none 0 0, .int .u32 0, .slice none 0 0, .slice none 0 0] 30)).heap.size = S + 1 := by rw [size_alloc', hS]
  obtain ⟨V, hV⟩ : ∃ V, V = w.alloc (.cells #[.slice none 0 0, .int .u32 0, .slice none 0 0, .slice none 0 0] 30) := ⟨_, rfl⟩
  rw [← hV] at hk hb hz
  rw [← hS] at hk hb hws hts hcs ⊢
  have HK := Lib.hid hk
  have HB := Lib.hid hb
  have HS := Lib.hid hS
  have HV := Lib.hid hV
  have HZ := Lib.hid hz
  have HW := Lib.hid hW
  have HM := Lib.hid hM
  have HL := Lib.hid hL
  have HWS := Lib.hid hws
  have HTS := Lib.hid hts
  have HCS := Lib.hid hcs
  have HG := Lib.hid hgood
  have hdz : V.drew.heap.size = S + 1 := hz
  clear hk hb hS hV hws hts hcs hW hM hL hgood
  have hi1 : (Try.prog.info? 3).map (fun i => (i.zero, i.size, i.bytes)) = some (some (.int .i64 0), 1, 8) := rfl
  obtain ⟨i1, a1, b1, c1', d1⟩ := info_parts hi1
  have hmW : ∀ W : World, (Instr.makeSlice 27 (.int .i64 m) (.int .i64 m)).run Try.prog W = .ok (.slice (some ⟨W.heap.size, 0, none⟩) m m) (W.alloc (.cells (madeCells #[.int .i64 0] m) 3)) := fun W => by
    have := run_make (P := Try.prog) W 27 3 i1 (.int .i64 0) (by kernel_rfl) a1 b1 .i64 .i64 m m (by omega) (Int.le_refl _) (by rw [d1]; omega) (by omega)
    rw [c1', Nat.mul_one, show (Value.int .i64 0).cells = #[Value.int .i64 0] from rfl] at this
    simpa using this
  clear hi1 a1 b1 c1' d1
  have hi2 : (Try.prog.info? 27).map (fun i => (i.zero, i.size, i.bytes)) = some (some (.slice none 0 0), 1, 24) := rfl
  obtain ⟨i2, a2, b2, c2', d2⟩ := info_parts hi2
  have hmT : ∀ W : World, (Instr.makeSlice 28 (.int .i64 m) (.int .i64 m)).run Try.prog W = .ok (.slice (some ⟨W.heap.size, 0, none⟩) m m) (W.alloc (.cells (madeCells #[.slice none 0 0] m) 27)) := fun W => by
    have := run_make (P := Try.prog) W 28 27 i2 (.slice none 0 0) (by kernel_rfl) a2 b2 .i64 .i64 m m (by omega) (Int.le_refl _) (by rw [d2]; omega) (by omega)
    rw [c2', Nat.mul_one, show (Value.slice none 0 0).cells = #[Value.slice none 0 0] from rfl] at this
    simpa using this
  clear hi2 a2 b2 c2' d2
  go_enter Try.func41, Try.ntmps41
  go_wp2_with fail
  rw [← HV.out, ← HS.out]
  refine region_plain 8 9 (fun _ => True) (by kernel_rfl) rfl ?_
  refine anyC_reads (by kernel_rfl) [0, 1, 3, 4] ?opa ?oha 5 _ _ _ (by kernel_rfl) ?oka
  case oha => (simp only [List.filterMap_cons, List.filterMap_nil, List.getElem?_toArray, List.getElem?_cons_zero, List.getElem?_cons_succ]; try rfl)
  repeat (
    refine readC_step (v := ?_) rfl (fun w' hw' => ?_) ?_
    rotate_left
    focus (clear hw'; go_simp; try with_reducible rfl)
    go_simp)
  refine readC_nil ?_
  refine anyD_three (i := 2) (j := 5) (k := 7) (by kernel_rfl) rfl rfl rfl rfl rfl rfl (.inr trivial) ?_ ?_ ?_
  · go_simp
    refine anyD_two (i := 5) (j := 7) (by kernel_rfl) rfl rfl rfl rfl (.inr trivial) ?_ ?_
    · go_simp
      refine anyC_reads (by kernel_rfl) [6] ?op0 ?oh0 2 _ _ _ (by kernel_rfl) ?ok0
      case oh0 => (simp only [List.filterMap_cons, List.filterMap_nil, List.getElem?_toArray, List.getElem?_cons_zero, List.getElem?_cons_succ]; try rfl)
      repeat (
        refine readC_step (v := ?_) rfl (fun w' hw' => ?_) ?_
        rotate_left
        focus (clear hw'; go_simp; try with_reducible rfl)
        go_simp)
      refine readC_nil ?_
      refine anyC_one (i := 7) (by kernel_rfl) rfl rfl (.inr trivial) ?_
      go_simp
      refine anyC_one (i := 8) (by kernel_rfl) rfl rfl (.inr trivial) ?_
      go_simp
      refine anyC_end (by kernel_rfl) (.inl rfl) ?_
      go_wp2_with fail
      have a1 := Blk.new V 3 (madeCells #[.int .i64 0] m)
      have a2 := Blk.new (V.alloc (.cells (madeCells #[.int .i64 0] m) 3)) 27 (madeCells #[.slice none 0 0] m)
      have a3 := Blk.new ((V.alloc (.cells (madeCells #[.int .i64 0] m) 3)).alloc (.cells (madeCells #[.slice none 0 0] m) 27)) 30 #[.slice none 0 0, .int .u32 0, .slice (some ⟨S + 1, 0, none⟩) m m, .slice (some ⟨S + 1 + 1, 0, none⟩) m m]
      rw [hz] at a1
      rw [size_alloc', hz] at a2
      rw [size_alloc', size_alloc', hz] at a3
      obtain ⟨P, hP⟩ : ∃ g, g = S + 1 + 1 + 1 := ⟨_, rfl⟩
      try rw [← hP] at a1
      try rw [← hP] at a2
      try rw [← hP] at a3
      try rw [← hP] at ⊢
      obtain ⟨gt, hgt⟩ : ∃ g, g = S + 1 + 1 := ⟨_, rfl⟩
      try rw [← hgt] at a1
      try rw [← hgt] at a2
      try rw [← hgt] at a3
      try rw [← hgt] at ⊢
      obtain ⟨gw, hgw⟩ : ∃ g, g = S + 1 := ⟨_, rfl⟩
      try rw [← hgw] at a1
      try rw [← hgw] at a2
      try rw [← hgw] at a3
      try rw [← hgw] at ⊢
      have HC7 := Lib.hid (cref_start (lo := S + 1) a3 ((a1.alloc (.cells (madeCells #[.slice none 0 0] m) 27)).alloc (.cells #[.slice none 0 0, .int .u32 0, .slice (some ⟨gw, 0, none⟩) m m, .slice (some ⟨gt, 0, none⟩) m m] 30)) (a2.alloc (.cells #[.slice none 0 0, .int .u32 0, .slice (some ⟨gw, 0, none⟩) m m, .slice (some ⟨gt, 0, none⟩) m m] 30)) (by unfold maxLen; omega) (by omega) (by omega) (by omega)).drew
      have HB7 := Lib.hid (((((Below.refl (S + 1) V).alloc (by omega) (.cells (madeCells #[.int .i64 0] m) 3)).alloc (by rw [size_alloc']; omega) (.cells (madeCells #[.slice none 0 0] m) 27)).alloc (by rw [size_alloc', size_alloc']; omega) (.cells #[.slice none 0 0, .int .u32 0, .slice (some ⟨gw, 0, none⟩) m m, .slice (some ⟨gt, 0, none⟩) m m] 30)).drew)
      have HK7 := Lib.hid ((((HK.out.alloc (.cells (madeCells #[.int .i64 0] m) 3)).alloc (.cells (madeCells #[.slice none 0 0] m) 27)).alloc (.cells #[.slice none 0 0, .int .u32 0, .slice (some ⟨gw, 0, none⟩) m m, .slice (some ⟨gt, 0, none⟩) m m] 30)).drew)
      have hlP : S + 1 ≤ P := by omega
      obtain ⟨X, hX⟩ : ∃ X, X = (((V.alloc (.cells (madeCells #[.int .i64 0] m) 3)).alloc (.cells (madeCells #[.slice none 0 0] m) 27)).alloc (.cells #[.slice none 0 0, .int .u32 0, .slice (some ⟨gw, 0, none⟩) m m, .slice (some ⟨gt, 0, none⟩) m m] 30)).drew := ⟨_, rfl⟩
      rw [← hX] at HC7 HB7 HK7 ⊢
      clear a1 a2 a3 hX hmW hmT hdz hgw hgt hP
      go_loopw [19] (fun s19 wr => PlayJ S P m gw gt ws svs script V s19 wr) (fun s19 _ => L - (intOf s19).toNat)
      case atStart => exact ⟨0, none, 0, _, Nat.zero_le _, rfl, HB7.out, by rw [List.take_zero]; unfold playF; rw [List.foldl_nil, HM.out]; exact HC7.out, HK7.out⟩
      case round =>
        clear HB7 HC7 HK7
        rename World => wr
        obtain ⟨k, Ac, kc, rows, hk, rfl, hb, h, hkR⟩ := hrel
        rw [HL.out] at hk
        by_cases hkL : k < L
        · have hkl : k < script.length := by rw [HL.out]; exact hkL
          have hbw : Below S w wr := HB.out.trans (hb.mono (by omega))
          obtain ⟨bc, oc, hC, hbc, q0, q1, q2⟩ := (HCS.out.below hbw).at3 (f := fun x : Chg => .int .i64 x.1) (g := fun x : Chg => .int .i64 x.2.1) (p := fun x : Chg => .int .i64 x.2.2) hkl
          subst hC
          obtain ⟨x, hx⟩ : ∃ x, x = script[k] := ⟨_, rfl⟩
          rw [← hx] at q0 q1 q2
          have hnx : playF ws svs (script.take (k + 1)) = stepF ws svs (playF ws svs (script.take k)) x := by
            rw [List.take_succ_eq_append_getElem hkl, ← hx, playF_snoc]
          have hok := CwOk.play (svs := svs) (fun q => by
            rcases Nat.lt_or_ge q ws.length with hq | hq
            · have : wk ws q ∈ ws := by
                unfold wk
                rw [getD_at ws q hq]
                exact List.getElem_mem hq
              exact (HG.out _ this).1
            · unfold wk
              rw [List.getD_eq_getElem?_getD, List.getElem?_eq_none hq]
              exact Int.le_refl _) (script.take k)
          have hcl : (playF ws svs (script.take k)).codes.length = k := by rw [step_codes, List.length_take]; omega
          obtain ⟨c, hc⟩ : ∃ c, c = playF ws svs (script.take k) := ⟨_, rfl⟩
          rw [← hc] at h hnx hok hcl
          have hzw : S + 1 ≤ wr.heap.size := by have := hb.size; rw [HZ.out] at this; exact this
          have hZk := Blk.new wr 41 #[.int .i64 x.1, .int .i64 x.2.1, .int .i64 x.2.2]
          have h2 := h.alloc (.cells #[.int .i64 x.1, .int .i64 x.2.1, .int .i64 x.2.2] 41)
          have hb2 := hb.alloc hzw (.cells #[.int .i64 x.1, .int .i64 x.2.1, .int .i64 x.2.2] 41)
          have hkR2 := hkR.alloc (.cells #[.int .i64 x.1, .int .i64 x.2.1, .int .i64 x.2.2] 41)
          obtain ⟨V5, hV5⟩ : ∃ V5, V5 = wr.alloc (.cells #[.int .i64 x.1, .int .i64 x.2.1, .int .i64 x.2.2] 41) := ⟨_, rfl⟩
          obtain ⟨Z, hZ⟩ : ∃ Z, Z = wr.heap.size := ⟨_, rfl⟩
          rw [← hV5] at hZk h2 hb2 hkR2
          rw [← hZ] at hZk
          have z0 := hZk.cell 0
          have z1 := hZk.cell 1
          have z2 := hZk.cell 2
          have p2 := h2.blk.cell 0
          have HCH := Lib.hid (ref_changed A B W cA cB (S + 1) P m gw gt kc Ac rows c ws svs x V5.drew h2.drew hm12 HW.out hW6 HM.out HG.out hok ((HWS.out.below (HB.out.trans (hb2.drew.mono (by omega)))).more (by omega)) ((HTS.out.below (HB.out.trans (hb2.drew.mono (by omega)))).more (by omega)))
          have HB5 := Lib.hid hb2
          have HKR := Lib.hid hkR2
          have HNX := Lib.hid hnx
          have HV5 := Lib.hid hV5
          have HZZ := Lib.hid hZ
          have HCL := Lib.hid hcl
          have HCC := Lib.hid (chg_codes ws svs c x)
          rw [hcl] at p2
          clear hb h hkR hbw hx hnx hok hcl hc h2 hb2 hkR2 hV5 hZ hZk
          go_wp2_with fail
          rw [← HV5.out, ← HZZ.out]
          refine region_plain 9 10 (fun w' => w'.cell? ⟨P, 0, none⟩ = some (.slice Ac k kc)) (by kernel_rfl) rfl ?_
          refine anyC_reads (by kernel_rfl) [0, 1, 2, 3] ?opr1 ?ohr1 6 _ _ _ (by kernel_rfl) ?okr1
          case ohr1 => (simp only [List.filterMap_cons, List.filterMap_nil, List.getElem?_toArray, List.getElem?_cons_zero, List.getElem?_cons_succ]; try rfl)
          repeat (
            refine readC_step (v := ?_) rfl (fun w' hw' => ?_) ?_
            rotate_left
            focus (have p9 := hw'; go_simp; try with_reducible rfl)
            go_simp)
          refine readC_nil ?_
          refine anyC_one (i := 4) (by kernel_rfl) rfl rfl (.inr p2) ?_
          go_simp
          refine anyC_one (i := 5) (by kernel_rfl) rfl rfl (.inr p2) ?_
          go_simp
          refine HCH.out.mono ?_
          clear HCH
          rintro e w6 ⟨rfl, hb6, rows6, h6⟩
          obtain ⟨er, her⟩ : ∃ er, er = (chgF ws svs c x).2 := ⟨_, rfl⟩
          obtain ⟨c6, hc6⟩ : ∃ c6, c6 = (chgF ws svs c x).1 := ⟨_, rfl⟩
          rw [← hc6] at h6
          rw [← her]
          have hst : stepF ws svs c x = { c6 with codes := c6.codes ++ [er] } := by
            unfold stepF
            rw [← hc6, ← her, hc6, HCC.out]
          have hcl6 : c6.codes.length = k := by rw [hc6, HCC.out]; exact HCL.out
          have hz6 : S + 1 ≤ w6.heap.size := by have := h6.blk.lt; have := h6.hlo; omega
          have hkR6 := HKR.out.drew.below hb6 (by omega)
          have hlit := Blk.new w6 31 #[.int .i64 er]
          have h7 := h6.alloc (.cells #[.int .i64 er] 31)
          have hkR7 := hkR6.alloc (.cells #[.int .i64 er] 31)
          have hb7 := (HB5.out.drew.trans hb6).alloc hz6 (.cells #[.int .i64 er] 31)
          obtain ⟨w7, hw7⟩ : ∃ w7, w7 = w6.alloc (.cells #[.int .i64 er] 31) := ⟨_, rfl⟩
          have hz7 : S + 1 ≤ w7.heap.size := by rw [hw7, size_alloc']; omega
          rw [← hw7] at hlit h7 hkR7 hb7
          have p26 := h6.blk.cell 0
          have p27 := h7.blk.cell 0
          rw [hcl6] at p26 p27
          have H7 := Lib.hid h7
          have HKR7 := Lib.hid hkR7
          have HB7 := Lib.hid hb7
          have HLIT := Lib.hid hlit
          have HST := Lib.hid hst
          have HCL6 := Lib.hid hcl6
          have HW7 := Lib.hid hw7
          clear h6 h7 hkR6 hkR7 hb6 hb7 hlit hst hcl6 her hc6 hw7
          refine anyC_one (i := 6) (by kernel_rfl) rfl rfl (.inr p26) ?_
          go_simp
          rw [← HW7.out]
          refine anyC_one (i := 7) (by kernel_rfl) rfl rfl (.inr p27) ?_
          refine wp_append_els _ _ 25 rfl (S + 1) 1 31 (.int .i64 0) 8 Try.underlying25 (by kernel_rfl) rfl (by omega) icell _ Ac k kc c6.codes HCL6.out rfl H7.out.cod _ 1 1 [er] rfl rfl _ (els_of_blk HLIT.out 1 icell (fun _ => rfl) [er] rfl) (by simp [Value.oneCell']) (by unfold maxLen; omega) (by omega) hz7 ?_
          intro A8 cap8 w8 hown8 hgrow8 hloc8
          have hne : ∀ g, blkOf Ac = some g → S + 1 ≤ g := fun g hg => (H7.out.cod.lt g hg).1
          have hk8 := H7.out.blk.grown hgrow8 (fun e => own_far_blk H7.out.cod H7.out.blk (by decide) e.symm)
          have hkR8 := (HKR7.out.grown hgrow8 (fun e => by have := hne S e.symm; omega)).far (p := ⟨P, 0, none⟩) (by show S ≠ P; omega) (.slice A8 (k + 1) cap8)
          have hb8 := (HB7.out.grown hgrow8 hz7 hne).setCell (p := ⟨P, 0, none⟩) hlP (.slice A8 (k + 1) cap8)
          have hcode := H7.out.code hown8 hgrow8 (n := k + 1) (by rw [List.length_append, HCL6.out]; rfl)
          rw [← HST.out, ← HNX.out] at hcode
          have p28 := hk8.cell 0
          have f28 := hk8.frozen 0
          rw [HCL6.out] at p28
          have HKR8 := Lib.hid hkR8
          have HB8 := Lib.hid hb8
          have HC8 := Lib.hid hcode
          clear hkR8 hb8 hcode hk8 hown8 hgrow8 hloc8 hne
          go_simp
          refine anyC_one (i := 8) (by kernel_rfl) rfl rfl (.inr p28) ?_
          go_simp
          refine anyC_one (i := 9) (by kernel_rfl) rfl rfl (.inr p28) ?_
          go_simp
          refine anyC_end (by kernel_rfl) (.inl rfl) ?_
          go_wp2_with fail
          go_roundw
          case rel => exact ⟨k + 1, A8, cap8, rows6, by rw [HL.out]; omega, by go_num, HB8.out, HC8.out, HKR8.out⟩
          case measure => simp [intOf]; omega
        · obtain rfl : k = L := by omega
          rw [List.take_of_length_le (by rw [HL.out]; exact Nat.le_refl _)] at h
          have hcl : (playF ws svs script).codes.length = k := by rw [step_codes]; exact HL.out
          obtain ⟨c, hc⟩ : ∃ c, c = playF ws svs script := ⟨_, rfl⟩
          rw [← hc] at h hcl
          have p2 := h.blk.cell 0
          have p3 := h.blk.cell 1
          have p4 := h.blk.cell 2
          have p5 := h.blk.cell 3
          rw [hcl] at p2
          have r0 := hkR.cell 0
          have r1 := hkR.cell 1
          have r2 := hkR.cell 2
          have r3 := hkR.cell 3
          have f0 := hkR.frozen 0
          have f1 := hkR.frozen 1
          have f2 := hkR.frozen 2
          have f3 := hkR.frozen 3
          have H := Lib.hid h
          have HKR := Lib.hid hkR
          have HBF := Lib.hid (HB.out.trans (hb.mono (Nat.le_succ S)))
          have HCC := Lib.hid hc
          clear h hkR hb hcl hc
          go_wp2_with fail
          have hk9 := (((HKR.out.put 0 (.slice Ac k kc)).put 1 (.int .u32 (wN c.inn))).put 2 (.slice (some ⟨gw, 0, none⟩) m m)).put 3 (.slice (some ⟨gt, 0, none⟩) m m)
          have hb9 := (((HBF.out.setCell (p := ⟨S, 0, none⟩) (Nat.le_refl _) (.slice Ac k kc)).setCell (p := ⟨S, 1, none⟩) (Nat.le_refl _) (.int .u32 (wN c.inn))).setCell (p := ⟨S, 2, none⟩) (Nat.le_refl _) (.slice (some ⟨gw, 0, none⟩) m m)).setCell (p := ⟨S, 3, none⟩) (Nat.le_refl _) (.slice (some ⟨gt, 0, none⟩) m m)
          have hc9 := ((((H.out.kept (gb_setCell _ S 0 (.slice Ac k kc)) (Nat.lt_succ_self S)).kept (gb_setCell _ S 1 (.int .u32 (wN c.inn))) (Nat.lt_succ_self S)).kept (gb_setCell _ S 2 (.slice (some ⟨gw, 0, none⟩) m m)) (Nat.lt_succ_self S)).kept (gb_setCell _ S 3 (.slice (some ⟨gt, 0, none⟩) m m)) (Nat.lt_succ_self S)).weaken (Nat.le_succ S)
          obtain ⟨W9, hW9⟩ : ∃ W9, W9 = ((((wr.setCell ⟨S, 0, none⟩ (.slice Ac k kc)).setCell ⟨S, 1, none⟩ (.int .u32 (wN c.inn))).setCell ⟨S, 2, none⟩ (.slice (some ⟨gw, 0, none⟩) m m)).setCell ⟨S, 3, none⟩ (.slice (some ⟨gt, 0, none⟩) m m)) := ⟨_, rfl⟩
          rw [← hW9] at hk9 hb9 hc9 ⊢
          have e0 := hk9.cell 0
          have e1 := hk9.cell 1
          have e2 := hk9.cell 2
          have e3 := hk9.cell 3
          clear hW9
          refine bodyPost_ret (v := .agg #[.slice Ac k kc, .int .u32 (wN c.inn), .slice (some ⟨gw, 0, none⟩) m m, .slice (some ⟨gt, 0, none⟩) m m]) ?_ rfl ⟨hb9, P, gw, gt, Ac, kc, rows, by rw [← HCC.out]; exact hc9, by rw [← HCC.out]⟩
          simp [results, Try.results41, go_sem, e0, e1, e2, e3]
    · go_simp
      refine anyC_one (i := 5) (by kernel_rfl) rfl rfl (.inr trivial) ?_
      go_simp
      refine anyC_one (i := 6) (by kernel_rfl) rfl rfl (.inr trivial) ?_
      go_simp
      refine anyC_one (i := 8) (by kernel_rfl) rfl rfl (.inr trivial) ?_
      go_simp
      refine anyC_end (by kernel_rfl) (.inl rfl) ?_
      go_wp2_with fail
      have a1 := Blk.new V 3 (madeCells #[.int .i64 0] m)
      have a2 := Blk.new (V.alloc (.cells (madeCells #[.int .i64 0] m) 3)) 30 #[.slice none 0 0, .int .u32 0, .slice (some ⟨S + 1, 0, none⟩) m m, .slice (some ⟨S + 1 + 1 + 1, 0, none⟩) m m]
      have a3 := Blk.new ((V.alloc (.cells (madeCells #[.int .i64 0] m) 3)).alloc (.cells #[.slice none 0 0, .int .u32 0, .slice (some ⟨S + 1, 0, none⟩) m m, .slice (some ⟨S + 1 + 1 + 1, 0, none⟩) m m] 30)) 27 (madeCells #[.slice none 0 0] m)
      rw [hz] at a1
      rw [size_alloc', hz] at a2
      rw [size_alloc', size_alloc', hz] at a3
      obtain ⟨gt, hgt⟩ : ∃ g, g = S + 1 + 1 + 1 := ⟨_, rfl⟩
      try rw [← hgt] at a1
      try rw [← hgt] at a2
      try rw [← hgt] at a3
      try rw [← hgt] at ⊢
      obtain ⟨P, hP⟩ : ∃ g, g = S + 1 + 1 := ⟨_, rfl⟩
      try rw [← hP] at a1
      try rw [← hP] at a2
      try rw [← hP] at a3
      try rw [← hP] at ⊢
      obtain ⟨gw, hgw⟩ : ∃ g, g = S + 1 := ⟨_, rfl⟩
      try rw [← hgw] at a1
      try rw [← hgw] at a2
      try rw [← hgw] at a3
      try rw [← hgw] at ⊢
      have HC7 := Lib.hid (cref_start (lo := S + 1) (a2.alloc (.cells (madeCells #[.slice none 0 0] m) 27)) ((a1.alloc (.cells #[.slice none 0 0, .int .u32 0, .slice (some ⟨gw, 0, none⟩) m m, .slice (some ⟨gt, 0, none⟩) m m] 30)).alloc (.cells (madeCells #[.slice none 0 0] m) 27)) a3 (by unfold maxLen; omega) (by omega) (by omega) (by omega)).drew
      have HB7 := Lib.hid (((((Below.refl (S + 1) V).alloc (by omega) (.cells (madeCells #[.int .i64 0] m) 3)).alloc (by rw [size_alloc']; omega) (.cells #[.slice none 0 0, .int .u32 0, .slice (some ⟨gw, 0, none⟩) m m, .slice (some ⟨gt, 0, none⟩) m m] 30)).alloc (by rw [size_alloc', size_alloc']; omega) (.cells (madeCells #[.slice none 0 0] m) 27)).drew)
      have HK7 := Lib.hid ((((HK.out.alloc (.cells (madeCells #[.int .i64 0] m) 3)).alloc (.cells #[.slice none 0 0, .int .u32 0, .slice (some ⟨gw, 0, none⟩) m m, .slice (some ⟨gt, 0, none⟩) m m] 30)).alloc (.cells (madeCells #[.slice none 0 0] m) 27)).drew)
      have hlP : S + 1 ≤ P := by omega
      obtain ⟨X, hX⟩ : ∃ X, X = (((V.alloc (.cells (madeCells #[.int .i64 0] m) 3)).alloc (.cells #[.slice none 0 0, .int .u32 0, .slice (some ⟨gw, 0, none⟩) m m, .slice (some ⟨gt, 0, none⟩) m m] 30)).alloc (.cells (madeCells #[.slice none 0 0] m) 27)).drew := ⟨_, rfl⟩
      rw [← hX] at HC7 HB7 HK7 ⊢
      clear a1 a2 a3 hX hmW hmT hdz hgw hgt hP
      go_loopw [19] (fun s19 wr => PlayJ S P m gw gt ws svs script V s19 wr) (fun s19 _ => L - (intOf s19).toNat)
      case atStart => exact ⟨0, none, 0, _, Nat.zero_le _, rfl, HB7.out, by rw [List.take_zero]; unfold playF; rw [List.foldl_nil, HM.out]; exact HC7.out, HK7.out⟩
      case round =>
        clear HB7 HC7 HK7
        rename World => wr
        obtain ⟨k, Ac, kc, rows, hk, rfl, hb, h, hkR⟩ := hrel
        rw [HL.out] at hk
        by_cases hkL : k < L
        · have hkl : k < script.length := by rw [HL.out]; exact hkL
          have hbw : Below S w wr := HB.out.trans (hb.mono (by omega))
          obtain ⟨bc, oc, hC, hbc, q0, q1, q2⟩ := (HCS.out.below hbw).at3 (f := fun x : Chg => .int .i64 x.1) (g := fun x : Chg => .int .i64 x.2.1) (p := fun x : Chg => .int .i64 x.2.2) hkl
          subst hC
          obtain ⟨x, hx⟩ : ∃ x, x = script[k] := ⟨_, rfl⟩
          rw [← hx] at q0 q1 q2
          have hnx : playF ws svs (script.take (k + 1)) = stepF ws svs (playF ws svs (script.take k)) x := by
            rw [List.take_succ_eq_append_getElem hkl, ← hx, playF_snoc]
          have hok := CwOk.play (svs := svs) (fun q => by
            rcases Nat.lt_or_ge q ws.length with hq | hq
            · have : wk ws q ∈ ws := by
                unfold wk
                rw [getD_at ws q hq]
                exact List.getElem_mem hq
              exact (HG.out _ this).1
            · unfold wk
              rw [List.getD_eq_getElem?_getD, List.getElem?_eq_none hq]
              exact Int.le_refl _) (script.take k)
          have hcl : (playF ws svs (script.take k)).codes.length = k := by rw [step_codes, List.length_take]; omega
          obtain ⟨c, hc⟩ : ∃ c, c = playF ws svs (script.take k) := ⟨_, rfl⟩
          rw [← hc] at h hnx hok hcl
          have hzw : S + 1 ≤ wr.heap.size := by have := hb.size; rw [HZ.out] at this; exact this
          have hZk := Blk.new wr 41 #[.int .i64 x.1, .int .i64 x.2.1, .int .i64 x.2.2]
          have h2 := h.alloc (.cells #[.int .i64 x.1, .int .i64 x.2.1, .int .i64 x.2.2] 41)
          have hb2 := hb.alloc hzw (.cells #[.int .i64 x.1, .int .i64 x.2.1, .int .i64 x.2.2] 41)
          have hkR2 := hkR.alloc (.cells #[.int .i64 x.1, .int .i64 x.2.1, .int .i64 x.2.2] 41)
          obtain ⟨V5, hV5⟩ : ∃ V5, V5 = wr.alloc (.cells #[.int .i64 x.1, .int .i64 x.2.1, .int .i64 x.2.2] 41) := ⟨_, rfl⟩
          obtain ⟨Z, hZ⟩ : ∃ Z, Z = wr.heap.size := ⟨_, rfl⟩
          rw [← hV5] at hZk h2 hb2 hkR2
          rw [← hZ] at hZk
          have z0 := hZk.cell 0
          have z1 := hZk.cell 1
          have z2 := hZk.cell 2
          have p2 := h2.blk.cell 0
          have HCH := Lib.hid (ref_changed A B W cA cB (S + 1) P m gw gt kc Ac rows c ws svs x V5.drew h2.drew hm12 HW.out hW6 HM.out HG.out hok ((HWS.out.below (HB.out.trans (hb2.drew.mono (by omega)))).more (by omega)) ((HTS.out.below (HB.out.trans (hb2.drew.mono (by omega)))).more (by omega)))
          have HB5 := Lib.hid hb2
          have HKR := Lib.hid hkR2
          have HNX := Lib.hid hnx
          have HV5 := Lib.hid hV5
          have HZZ := Lib.hid hZ
          have HCL := Lib.hid hcl
          have HCC := Lib.hid (chg_codes ws svs c x)
          rw [hcl] at p2
          clear hb h hkR hbw hx hnx hok hcl hc h2 hb2 hkR2 hV5 hZ hZk
          go_wp2_with fail
          rw [← HV5.out, ← HZZ.out]
          refine region_plain 9 10 (fun w' => w'.cell? ⟨P, 0, none⟩ = some (.slice Ac k kc)) (by kernel_rfl) rfl ?_
          refine anyC_reads (by kernel_rfl) [0, 1, 2, 3] ?opr2 ?ohr2 6 _ _ _ (by kernel_rfl) ?okr2
          case ohr2 => (simp only [List.filterMap_cons, List.filterMap_nil, List.getElem?_toArray, List.getElem?_cons_zero, List.getElem?_cons_succ]; try rfl)
          repeat (
            refine readC_step (v := ?_) rfl (fun w' hw' => ?_) ?_
            rotate_left
            focus (have p9 := hw'; go_simp; try with_reducible rfl)
            go_simp)
          refine readC_nil ?_
          refine anyC_one (i := 4) (by kernel_rfl) rfl rfl (.inr p2) ?_
          go_simp
          refine anyC_one (i := 5) (by kernel_rfl) rfl rfl (.inr p2) ?_
          go_simp
          refine HCH.out.mono ?_
          clear HCH
          rintro e w6 ⟨rfl, hb6, rows6, h6⟩
          obtain ⟨er, her⟩ : ∃ er, er = (chgF ws svs c x).2 := ⟨_, rfl⟩
          obtain ⟨c6, hc6⟩ : ∃ c6, c6 = (chgF ws svs c x).1 := ⟨_, rfl⟩
          rw [← hc6] at h6
          rw [← her]
          have hst : stepF ws svs c x = { c6 with codes := c6.codes ++ [er] } := by
            unfold stepF
            rw [← hc6, ← her, hc6, HCC.out]
          have hcl6 : c6.codes.length = k := by rw [hc6, HCC.out]; exact HCL.out
          have hz6 : S + 1 ≤ w6.heap.size := by have := h6.blk.lt; have := h6.hlo; omega
          have hkR6 := HKR.out.drew.below hb6 (by omega)
          have hlit := Blk.new w6 31 #[.int .i64 er]
          have h7 := h6.alloc (.cells #[.int .i64 er] 31)
          have hkR7 := hkR6.alloc (.cells #[.int .i64 er] 31)
          have hb7 := (HB5.out.drew.trans hb6).alloc hz6 (.cells #[.int .i64 er] 31)
          obtain ⟨w7, hw7⟩ : ∃ w7, w7 = w6.alloc (.cells #[.int .i64 er] 31) := ⟨_, rfl⟩
          have hz7 : S + 1 ≤ w7.heap.size := by rw [hw7, size_alloc']; omega
          rw [← hw7] at hlit h7 hkR7 hb7
          have p26 := h6.blk.cell 0
          have p27 := h7.blk.cell 0
          rw [hcl6] at p26 p27
          have H7 := Lib.hid h7
          have HKR7 := Lib.hid hkR7
          have HB7 := Lib.hid hb7
          have HLIT := Lib.hid hlit
          have HST := Lib.hid hst
          have HCL6 := Lib.hid hcl6
          have HW7 := Lib.hid hw7
          clear h6 h7 hkR6 hkR7 hb6 hb7 hlit hst hcl6 her hc6 hw7
          refine anyC_one (i := 6) (by kernel_rfl) rfl rfl (.inr p26) ?_
          go_simp
          rw [← HW7.out]
          refine anyC_one (i := 7) (by kernel_rfl) rfl rfl (.inr p27) ?_
          refine wp_append_els _ _ 25 rfl (S + 1) 1 31 (.int .i64 0) 8 Try.underlying25 (by kernel_rfl) rfl (by omega) icell _ Ac k kc c6.codes HCL6.out rfl H7.out.cod _ 1 1 [er] rfl rfl _ (els_of_blk HLIT.out 1 icell (fun _ => rfl) [er] rfl) (by simp [Value.oneCell']) (by unfold maxLen; omega) (by omega) hz7 ?_
          intro A8 cap8 w8 hown8 hgrow8 hloc8
          have hne : ∀ g, blkOf Ac = some g → S + 1 ≤ g := fun g hg => (H7.out.cod.lt g hg).1
          have hk8 := H7.out.blk.grown hgrow8 (fun e => own_far_blk H7.out.cod H7.out.blk (by decide) e.symm)
          have hkR8 := (HKR7.out.grown hgrow8 (fun e => by have := hne S e.symm; omega)).far (p := ⟨P, 0, none⟩) (by show S ≠ P; omega) (.slice A8 (k + 1) cap8)
          have hb8 := (HB7.out.grown hgrow8 hz7 hne).setCell (p := ⟨P, 0, none⟩) hlP (.slice A8 (k + 1) cap8)
          have hcode := H7.out.code hown8 hgrow8 (n := k + 1) (by rw [List.length_append, HCL6.out]; rfl)
          rw [← HST.out, ← HNX.out] at hcode
          have p28 := hk8.cell 0
          have f28 := hk8.frozen 0
          rw [HCL6.out] at p28
          have HKR8 := Lib.hid hkR8
          have HB8 := Lib.hid hb8
          have HC8 := Lib.hid hcode
          clear hkR8 hb8 hcode hk8 hown8 hgrow8 hloc8 hne
          go_simp
          refine anyC_one (i := 8) (by kernel_rfl) rfl rfl (.inr p28) ?_
          go_simp
          refine anyC_one (i := 9) (by kernel_rfl) rfl rfl (.inr p28) ?_
          go_simp
          refine anyC_end (by kernel_rfl) (.inl rfl) ?_
          go_wp2_with fail
          go_roundw
          case rel => exact ⟨k + 1, A8, cap8, rows6, by rw [HL.out]; omega, by go_num, HB8.out, HC8.out, HKR8.out⟩
          case measure => simp [intOf]; omega
        · obtain rfl : k = L := by omega
          rw [List.take_of_length_le (by rw [HL.out]; exact Nat.le_refl _)] at h
          have hcl : (playF ws svs script).codes.length = k := by rw [step_codes]; exact HL.out
          obtain ⟨c, hc⟩ : ∃ c, c = playF ws svs script := ⟨_, rfl⟩
          rw [← hc] at h hcl
          have p2 := h.blk.cell 0
          have p3 := h.blk.cell 1
          have p4 := h.blk.cell 2
          have p5 := h.blk.cell 3
          rw [hcl] at p2
          have r0 := hkR.cell 0
          have r1 := hkR.cell 1
          have r2 := hkR.cell 2
          have r3 := hkR.cell 3
          have f0 := hkR.frozen 0
          have f1 := hkR.frozen 1
          have f2 := hkR.frozen 2
          have f3 := hkR.frozen 3
          have H := Lib.hid h
          have HKR := Lib.hid hkR
          have HBF := Lib.hid (HB.out.trans (hb.mono (Nat.le_succ S)))
          have HCC := Lib.hid hc
          clear h hkR hb hcl hc
          go_wp2_with fail
          have hk9 := (((HKR.out.put 0 (.slice Ac k kc)).put 1 (.int .u32 (wN c.inn))).put 2 (.slice (some ⟨gw, 0, none⟩) m m)).put 3 (.slice (some ⟨gt, 0, none⟩) m m)
          have hb9 := (((HBF.out.setCell (p := ⟨S, 0, none⟩) (Nat.le_refl _) (.slice Ac k kc)).setCell (p := ⟨S, 1, none⟩) (Nat.le_refl _) (.int .u32 (wN c.inn))).setCell (p := ⟨S, 2, none⟩) (Nat.le_refl _) (.slice (some ⟨gw, 0, none⟩) m m)).setCell (p := ⟨S, 3, none⟩) (Nat.le_refl _) (.slice (some ⟨gt, 0, none⟩) m m)
          have hc9 := ((((H.out.kept (gb_setCell _ S 0 (.slice Ac k kc)) (Nat.lt_succ_self S)).kept (gb_setCell _ S 1 (.int .u32 (wN c.inn))) (Nat.lt_succ_self S)).kept (gb_setCell _ S 2 (.slice (some ⟨gw, 0, none⟩) m m)) (Nat.lt_succ_self S)).kept (gb_setCell _ S 3 (.slice (some ⟨gt, 0, none⟩) m m)) (Nat.lt_succ_self S)).weaken (Nat.le_succ S)
          obtain ⟨W9, hW9⟩ : ∃ W9, W9 = ((((wr.setCell ⟨S, 0, none⟩ (.slice Ac k kc)).setCell ⟨S, 1, none⟩ (.int .u32 (wN c.inn))).setCell ⟨S, 2, none⟩ (.slice (some ⟨gw, 0, none⟩) m m)).setCell ⟨S, 3, none⟩ (.slice (some ⟨gt, 0, none⟩) m m)) := ⟨_, rfl⟩
          rw [← hW9] at hk9 hb9 hc9 ⊢
          have e0 := hk9.cell 0
          have e1 := hk9.cell 1
          have e2 := hk9.cell 2
          have e3 := hk9.cell 3
          clear hW9
          refine bodyPost_ret (v := .agg #[.slice Ac k kc, .int .u32 (wN c.inn), .slice (some ⟨gw, 0, none⟩) m m, .slice (some ⟨gt, 0, none⟩) m m]) ?_ rfl ⟨hb9, P, gw, gt, Ac, kc, rows, by rw [← HCC.out]; exact hc9, by rw [← HCC.out]⟩
          simp [results, Try.results41, go_sem, e0, e1, e2, e3]
  · go_simp
    refine anyD_two (i := 2) (j := 7) (by kernel_rfl) rfl rfl rfl rfl (.inr trivial) ?_ ?_
    · go_simp
      refine anyC_reads (by kernel_rfl) [6] ?op1 ?oh1 2 _ _ _ (by kernel_rfl) ?ok1
      case oh1 => (simp only [List.filterMap_cons, List.filterMap_nil, List.getElem?_toArray, List.getElem?_cons_zero, List.getElem?_cons_succ]; try rfl)
      repeat (
        refine readC_step (v := ?_) rfl (fun w' hw' => ?_) ?_
        rotate_left
        focus (clear hw'; go_simp; try with_reducible rfl)
        go_simp)
      refine readC_nil ?_
      refine anyC_one (i := 7) (by kernel_rfl) rfl rfl (.inr trivial) ?_
      go_simp
      refine anyC_one (i := 8) (by kernel_rfl) rfl rfl (.inr trivial) ?_
      go_simp
      refine anyC_end (by kernel_rfl) (.inl rfl) ?_
      go_wp2_with fail
      have a1 := Blk.new V 27 (madeCells #[.slice none 0 0] m)
      have a2 := Blk.new (V.alloc (.cells (madeCells #[.slice none 0 0] m) 27)) 3 (madeCells #[.int .i64 0] m)
      have a3 := Blk.new ((V.alloc (.cells (madeCells #[.slice none 0 0] m) 27)).alloc (.cells (madeCells #[.int .i64 0] m) 3)) 30 #[.slice none 0 0, .int .u32 0, .slice (some ⟨S + 1 + 1, 0, none⟩) m m, .slice (some ⟨S + 1, 0, none⟩) m m]
      rw [hz] at a1
      rw [size_alloc', hz] at a2
      rw [size_alloc', size_alloc', hz] at a3
      obtain ⟨P, hP⟩ : ∃ g, g = S + 1 + 1 + 1 := ⟨_, rfl⟩
      try rw [← hP] at a1
      try rw [← hP] at a2
      try rw [← hP] at a3
      try rw [← hP] at ⊢
      obtain ⟨gw, hgw⟩ : ∃ g, g = S + 1 + 1 := ⟨_, rfl⟩
      try rw [← hgw] at a1
      try rw [← hgw] at a2
      try rw [← hgw] at a3
      try rw [← hgw] at ⊢
      obtain ⟨gt, hgt⟩ : ∃ g, g = S + 1 := ⟨_, rfl⟩
      try rw [← hgt] at a1
      try rw [← hgt] at a2
      try rw [← hgt] at a3
      try rw [← hgt] at ⊢
      have HC7 := Lib.hid (cref_start (lo := S + 1) a3 (a2.alloc (.cells #[.slice none 0 0, .int .u32 0, .slice (some ⟨gw, 0, none⟩) m m, .slice (some ⟨gt, 0, none⟩) m m] 30)) ((a1.alloc (.cells (madeCells #[.int .i64 0] m) 3)).alloc (.cells #[.slice none 0 0, .int .u32 0, .slice (some ⟨gw, 0, none⟩) m m, .slice (some ⟨gt, 0, none⟩) m m] 30)) (by unfold maxLen; omega) (by omega) (by omega) (by omega)).drew
      have HB7 := Lib.hid (((((Below.refl (S + 1) V).alloc (by omega) (.cells (madeCells #[.slice none 0 0] m) 27)).alloc (by rw [size_alloc']; omega) (.cells (madeCells #[.int .i64 0] m) 3)).alloc (by rw [size_alloc', size_alloc']; omega) (.cells #[.slice none 0 0, .int .u32 0, .slice (some ⟨gw, 0, none⟩) m m, .slice (some ⟨gt, 0, none⟩) m m] 30)).drew)
      have HK7 := Lib.hid ((((HK.out.alloc (.cells (madeCells #[.slice none 0 0] m) 27)).alloc (.cells (madeCells #[.int .i64 0] m) 3)).alloc (.cells #[.slice none 0 0, .int .u32 0, .slice (some ⟨gw, 0, none⟩) m m, .slice (some ⟨gt, 0, none⟩) m m] 30)).drew)
      have hlP : S + 1 ≤ P := by omega
      obtain ⟨X, hX⟩ : ∃ X, X = (((V.alloc (.cells (madeCells #[.slice none 0 0] m) 27)).alloc (.cells (madeCells #[.int .i64 0] m) 3)).alloc (.cells #[.slice none 0 0, .int .u32 0, .slice (some ⟨gw, 0, none⟩) m m, .slice (some ⟨gt, 0, none⟩) m m] 30)).drew := ⟨_, rfl⟩
      rw [← hX] at HC7 HB7 HK7 ⊢
      clear a1 a2 a3 hX hmW hmT hdz hgw hgt hP
      go_loopw [19] (fun s19 wr => PlayJ S P m gw gt ws svs script V s19 wr) (fun s19 _ => L - (intOf s19).toNat)
      case atStart => exact ⟨0, none, 0, _, Nat.zero_le _, rfl, HB7.out, by rw [List.take_zero]; unfold playF; rw [List.foldl_nil, HM.out]; exact HC7.out, HK7.out⟩
      case round =>
        clear HB7 HC7 HK7
        rename World => wr
        obtain ⟨k, Ac, kc, rows, hk, rfl, hb, h, hkR⟩ := hrel
        rw [HL.out] at hk
        by_cases hkL : k < L
        · have hkl : k < script.length := by rw [HL.out]; exact hkL
          have hbw : Below S w wr := HB.out.trans (hb.mono (by omega))
          obtain ⟨bc, oc, hC, hbc, q0, q1, q2⟩ := (HCS.out.below hbw).at3 (f := fun x : Chg => .int .i64 x.1) (g := fun x : Chg => .int .i64 x.2.1) (p := fun x : Chg => .int .i64 x.2.2) hkl
          subst hC
          obtain ⟨x, hx⟩ : ∃ x, x = script[k] := ⟨_, rfl⟩
          rw [← hx] at q0 q1 q2
          have hnx : playF ws svs (script.take (k + 1)) = stepF ws svs (playF ws svs (script.take k)) x := by
            rw [List.take_succ_eq_append_getElem hkl, ← hx, playF_snoc]
          have hok := CwOk.play (svs := svs) (fun q => by
            rcases Nat.lt_or_ge q ws.length with hq | hq
            · have : wk ws q ∈ ws := by
                unfold wk
                rw [getD_at ws q hq]
                exact List.getElem_mem hq
              exact (HG.out _ this).1
            · unfold wk
              rw [List.getD_eq_getElem?_getD, List.getElem?_eq_none hq]
              exact Int.le_refl _) (script.take k)
          have hcl : (playF ws svs (script.take k)).codes.length = k := by rw [step_codes, List.length_take]; omega
          obtain ⟨c, hc⟩ : ∃ c, c = playF ws svs (script.take k) := ⟨_, rfl⟩
          rw [← hc] at h hnx hok hcl
          have hzw : S + 1 ≤ wr.heap.size := by have := hb.size; rw [HZ.out] at this; exact this
          have hZk := Blk.new wr 41 #[.int .i64 x.1, .int .i64 x.2.1, .int .i64 x.2.2]
          have h2 := h.alloc (.cells #[.int .i64 x.1, .int .i64 x.2.1, .int .i64 x.2.2] 41)
          have hb2 := hb.alloc hzw (.cells #[.int .i64 x.1, .int .i64 x.2.1, .int .i64 x.2.2] 41)
          have hkR2 := hkR.alloc (.cells #[.int .i64 x.1, .int .i64 x.2.1, .int .i64 x.2.2] 41)
          obtain ⟨V5, hV5⟩ : ∃ V5, V5 = wr.alloc (.cells #[.int .i64 x.1, .int .i64 x.2.1, .int .i64 x.2.2] 41) := ⟨_, rfl⟩
          obtain ⟨Z, hZ⟩ : ∃ Z, Z = wr.heap.size := ⟨_, rfl⟩
          rw [← hV5] at hZk h2 hb2 hkR2
          rw [← hZ] at hZk
          have z0 := hZk.cell 0
          have z1 := hZk.cell 1
          have z2 := hZk.cell 2
          have p2 := h2.blk.cell 0
          have HCH := Lib.hid (ref_changed A B W cA cB (S + 1) P m gw gt kc Ac rows c ws svs x V5.drew h2.drew hm12 HW.out hW6 HM.out HG.out hok ((HWS.out.below (HB.out.trans (hb2.drew.mono (by omega)))).more (by omega)) ((HTS.out.below (HB.out.trans (hb2.drew.mono (by omega)))).more (by omega)))
          have HB5 := Lib.hid hb2
          have HKR := Lib.hid hkR2
          have HNX := Lib.hid hnx
          have HV5 := Lib.hid hV5
          have HZZ := Lib.hid hZ
          have HCL := Lib.hid hcl
          have HCC := Lib.hid (chg_codes ws svs c x)
          rw [hcl] at p2
          clear hb h hkR hbw hx hnx hok hcl hc h2 hb2 hkR2 hV5 hZ hZk
          go_wp2_with fail
          rw [← HV5.out, ← HZZ.out]
          refine region_plain 9 10 (fun w' => w'.cell? ⟨P, 0, none⟩ = some (.slice Ac k kc)) (by kernel_rfl) rfl ?_
          refine anyC_reads (by kernel_rfl) [0, 1, 2, 3] ?opr3 ?ohr3 6 _ _ _ (by kernel_rfl) ?okr3
          case ohr3 => (simp only [List.filterMap_cons, List.filterMap_nil, List.getElem?_toArray, List.getElem?_cons_zero, List.getElem?_cons_succ]; try rfl)
          repeat (
            refine readC_step (v := ?_) rfl (fun w' hw' => ?_) ?_
            rotate_left
            focus (have p9 := hw'; go_simp; try with_reducible rfl)
            go_simp)
          refine readC_nil ?_
          refine anyC_one (i := 4) (by kernel_rfl) rfl rfl (.inr p2) ?_
          go_simp
          refine anyC_one (i := 5) (by kernel_rfl) rfl rfl (.inr p2) ?_
          go_simp
          refine HCH.out.mono ?_
          clear HCH
          rintro e w6 ⟨rfl, hb6, rows6, h6⟩
          obtain ⟨er, her⟩ : ∃ er, er = (chgF ws svs c x).2 := ⟨_, rfl⟩
          obtain ⟨c6, hc6⟩ : ∃ c6, c6 = (chgF ws svs c x).1 := ⟨_, rfl⟩
          rw [← hc6] at h6
          rw [← her]
          have hst : stepF ws svs c x = { c6 with codes := c6.codes ++ [er] } := by
            unfold stepF
            rw [← hc6, ← her, hc6, HCC.out]
          have hcl6 : c6.codes.length = k := by rw [hc6, HCC.out]; exact HCL.out
          have hz6 : S + 1 ≤ w6.heap.size := by have := h6.blk.lt; have := h6.hlo; omega
          have hkR6 := HKR.out.drew.below hb6 (by omega)
          have hlit := Blk.new w6 31 #[.int .i64 er]
          have h7 := h6.alloc (.cells #[.int .i64 er] 31)
          have hkR7 := hkR6.alloc (.cells #[.int .i64 er] 31)
          have hb7 := (HB5.out.drew.trans hb6).alloc hz6 (.cells #[.int .i64 er] 31)
          obtain ⟨w7, hw7⟩ : ∃ w7, w7 = w6.alloc (.cells #[.int .i64 er] 31) := ⟨_, rfl⟩
          have hz7 : S + 1 ≤ w7.heap.size := by rw [hw7, size_alloc']; omega
          rw [← hw7] at hlit h7 hkR7 hb7
          have p26 := h6.blk.cell 0
          have p27 := h7.blk.cell 0
          rw [hcl6] at p26 p27
          have H7 := Lib.hid h7
          have HKR7 := Lib.hid hkR7
          have HB7 := Lib.hid hb7
          have HLIT := Lib.hid hlit
          have HST := Lib.hid hst
          have HCL6 := Lib.hid hcl6
          have HW7 := Lib.hid hw7
          clear h6 h7 hkR6 hkR7 hb6 hb7 hlit hst hcl6 her hc6 hw7
          refine anyC_one (i := 6) (by kernel_rfl) rfl rfl (.inr p26) ?_
          go_simp
          rw [← HW7.out]
          refine anyC_one (i := 7) (by kernel_rfl) rfl rfl (.inr p27) ?_
          refine wp_append_els _ _ 25 rfl (S + 1) 1 31 (.int .i64 0) 8 Try.underlying25 (by kernel_rfl) rfl (by omega) icell _ Ac k kc c6.codes HCL6.out rfl H7.out.cod _ 1 1 [er] rfl rfl _ (els_of_blk HLIT.out 1 icell (fun _ => rfl) [er] rfl) (by simp [Value.oneCell']) (by unfold maxLen; omega) (by omega) hz7 ?_
          intro A8 cap8 w8 hown8 hgrow8 hloc8
          have hne : ∀ g, blkOf Ac = some g → S + 1 ≤ g := fun g hg => (H7.out.cod.lt g hg).1
          have hk8 := H7.out.blk.grown hgrow8 (fun e => own_far_blk H7.out.cod H7.out.blk (by decide) e.symm)
          have hkR8 := (HKR7.out.grown hgrow8 (fun e => by have := hne S e.symm; omega)).far (p := ⟨P, 0, none⟩) (by show S ≠ P; omega) (.slice A8 (k + 1) cap8)
          have hb8 := (HB7.out.grown hgrow8 hz7 hne).setCell (p := ⟨P, 0, none⟩) hlP (.slice A8 (k + 1) cap8)
          have hcode := H7.out.code hown8 hgrow8 (n := k + 1) (by rw [List.length_append, HCL6.out]; rfl)
          rw [← HST.out, ← HNX.out] at hcode
          have p28 := hk8.cell 0
          have f28 := hk8.frozen 0
          rw [HCL6.out] at p28
          have HKR8 := Lib.hid hkR8
          have HB8 := Lib.hid hb8
          have HC8 := Lib.hid hcode
          clear hkR8 hb8 hcode hk8 hown8 hgrow8 hloc8 hne
          go_simp
          refine anyC_one (i := 8) (by kernel_rfl) rfl rfl (.inr p28) ?_
          go_simp
          refine anyC_one (i := 9) (by kernel_rfl) rfl rfl (.inr p28) ?_
          go_simp
          refine anyC_end (by kernel_rfl) (.inl rfl) ?_
          go_wp2_with fail
          go_roundw
          case rel => exact ⟨k + 1, A8, cap8, rows6, by rw [HL.out]; omega, by go_num, HB8.out, HC8.out, HKR8.out⟩
          case measure => simp [intOf]; omega
        · obtain rfl : k = L := by omega
          rw [List.take_of_length_le (by rw [HL.out]; exact Nat.le_refl _)] at h
          have hcl : (playF ws svs script).codes.length = k := by rw [step_codes]; exact HL.out
          obtain ⟨c, hc⟩ : ∃ c, c = playF ws svs script := ⟨_, rfl⟩
          rw [← hc] at h hcl
          have p2 := h.blk.cell 0
          have p3 := h.blk.cell 1
          have p4 := h.blk.cell 2
          have p5 := h.blk.cell 3
          rw [hcl] at p2
          have r0 := hkR.cell 0
          have r1 := hkR.cell 1
          have r2 := hkR.cell 2
          have r3 := hkR.cell 3
          have f0 := hkR.frozen 0
          have f1 := hkR.frozen 1
          have f2 := hkR.frozen 2
          have f3 := hkR.frozen 3
          have H := Lib.hid h
          have HKR := Lib.hid hkR
          have HBF := Lib.hid (HB.out.trans (hb.mono (Nat.le_succ S)))
          have HCC := Lib.hid hc
          clear h hkR hb hcl hc
          go_wp2_with fail
          have hk9 := (((HKR.out.put 0 (.slice Ac k kc)).put 1 (.int .u32 (wN c.inn))).put 2 (.slice (some ⟨gw, 0, none⟩) m m)).put 3 (.slice (some ⟨gt, 0, none⟩) m m)
          have hb9 := (((HBF.out.setCell (p := ⟨S, 0, none⟩) (Nat.le_refl _) (.slice Ac k kc)).setCell (p := ⟨S, 1, none⟩) (Nat.le_refl _) (.int .u32 (wN c.inn))).setCell (p := ⟨S, 2, none⟩) (Nat.le_refl _) (.slice (some ⟨gw, 0, none⟩) m m)).setCell (p := ⟨S, 3, none⟩) (Nat.le_refl _) (.slice (some ⟨gt, 0, none⟩) m m)
          have hc9 := ((((H.out.kept (gb_setCell _ S 0 (.slice Ac k kc)) (Nat.lt_succ_self S)).kept (gb_setCell _ S 1 (.int .u32 (wN c.inn))) (Nat.lt_succ_self S)).kept (gb_setCell _ S 2 (.slice (some ⟨gw, 0, none⟩) m m)) (Nat.lt_succ_self S)).kept (gb_setCell _ S 3 (.slice (some ⟨gt, 0, none⟩) m m)) (Nat.lt_succ_self S)).weaken (Nat.le_succ S)
          obtain ⟨W9, hW9⟩ : ∃ W9, W9 = ((((wr.setCell ⟨S, 0, none⟩ (.slice Ac k kc)).setCell ⟨S, 1, none⟩ (.int .u32 (wN c.inn))).setCell ⟨S, 2, none⟩ (.slice (some ⟨gw, 0, none⟩) m m)).setCell ⟨S, 3, none⟩ (.slice (some ⟨gt, 0, none⟩) m m)) := ⟨_, rfl⟩
          rw [← hW9] at hk9 hb9 hc9 ⊢
          have e0 := hk9.cell 0
          have e1 := hk9.cell 1
          have e2 := hk9.cell 2
          have e3 := hk9.cell 3
          clear hW9
          refine bodyPost_ret (v := .agg #[.slice Ac k kc, .int .u32 (wN c.inn), .slice (some ⟨gw, 0, none⟩) m m, .slice (some ⟨gt, 0, none⟩) m m]) ?_ rfl ⟨hb9, P, gw, gt, Ac, kc, rows, by rw [← HCC.out]; exact hc9, by rw [← HCC.out]⟩
          simp [results, Try.results41, go_sem, e0, e1, e2, e3]
    · go_simp
      refine anyC_one (i := 2) (by kernel_rfl) rfl rfl (.inr trivial) ?_
      go_simp
      refine anyC_one (i := 6) (by kernel_rfl) rfl rfl (.inr trivial) ?_
      go_simp
      refine anyC_one (i := 8) (by kernel_rfl) rfl rfl (.inr trivial) ?_
      go_simp
      refine anyC_end (by kernel_rfl) (.inl rfl) ?_
      go_wp2_with fail
      have a1 := Blk.new V 27 (madeCells #[.slice none 0 0] m)
      have a2 := Blk.new (V.alloc (.cells (madeCells #[.slice none 0 0] m) 27)) 30 #[.slice none 0 0, .int .u32 0, .slice (some ⟨S + 1 + 1 + 1, 0, none⟩) m m, .slice (some ⟨S + 1, 0, none⟩) m m]
      have a3 := Blk.new ((V.alloc (.cells (madeCells #[.slice none 0 0] m) 27)).alloc (.cells #[.slice none 0 0, .int .u32 0, .slice (some ⟨S + 1 + 1 + 1, 0, none⟩) m m, .slice (some ⟨S + 1, 0, none⟩) m m] 30)) 3 (madeCells #[.int .i64 0] m)
      rw [hz] at a1
      rw [size_alloc', hz] at a2
      rw [size_alloc', size_alloc', hz] at a3
      obtain ⟨gw, hgw⟩ : ∃ g, g = S + 1 + 1 + 1 := ⟨_, rfl⟩
      try rw [← hgw] at a1
      try rw [← hgw] at a2
      try rw [← hgw] at a3
      try rw [← hgw] at ⊢
      obtain ⟨P, hP⟩ : ∃ g, g = S + 1 + 1 := ⟨_, rfl⟩
      try rw [← hP] at a1
      try rw [← hP] at a2
      try rw [← hP] at a3
      try rw [← hP] at ⊢
      obtain ⟨gt, hgt⟩ : ∃ g, g = S + 1 := ⟨_, rfl⟩
      try rw [← hgt] at a1
      try rw [← hgt] at a2
      try rw [← hgt] at a3
      try rw [← hgt] at ⊢
      have HC7 := Lib.hid (cref_start (lo := S + 1) (a2.alloc (.cells (madeCells #[.int .i64 0] m) 3)) a3 ((a1.alloc (.cells #[.slice none 0 0, .int .u32 0, .slice (some ⟨gw, 0, none⟩) m m, .slice (some ⟨gt, 0, none⟩) m m] 30)).alloc (.cells (madeCells #[.int .i64 0] m) 3)) (by unfold maxLen; omega) (by omega) (by omega) (by omega)).drew
      have HB7 := Lib.hid (((((Below.refl (S + 1) V).alloc (by omega) (.cells (madeCells #[.slice none 0 0] m) 27)).alloc (by rw [size_alloc']; omega) (.cells #[.slice none 0 0, .int .u32 0, .slice (some ⟨gw, 0, none⟩) m m, .slice (some ⟨gt, 0, none⟩) m m] 30)).alloc (by rw [size_alloc', size_alloc']; omega) (.cells (madeCells #[.int .i64 0] m) 3)).drew)
      have HK7 := Lib.hid ((((HK.out.alloc (.cells (madeCells #[.slice none 0 0] m) 27)).alloc (.cells #[.slice none 0 0, .int .u32 0, .slice (some ⟨gw, 0, none⟩) m m, .slice (some ⟨gt, 0, none⟩) m m] 30)).alloc (.cells (madeCells #[.int .i64 0] m) 3)).drew)
      have hlP : S + 1 ≤ P := by omega
      obtain ⟨X, hX⟩ : ∃ X, X = (((V.alloc (.cells (madeCells #[.slice none 0 0] m) 27)).alloc (.cells #[.slice none 0 0, .int .u32 0, .slice (some ⟨gw, 0, none⟩) m m, .slice (some ⟨gt, 0, none⟩) m m] 30)).alloc (.cells (madeCells #[.int .i64 0] m) 3)).drew := ⟨_, rfl⟩
      rw [← hX] at HC7 HB7 HK7 ⊢
      clear a1 a2 a3 hX hmW hmT hdz hgw hgt hP
      go_loopw [19] (fun s19 wr => PlayJ S P m gw gt ws svs script V s19 wr) (fun s19 _ => L - (intOf s19).toNat)
      case atStart => exact ⟨0, none, 0, _, Nat.zero_le _, rfl, HB7.out, by rw [List.take_zero]; unfold playF; rw [List.foldl_nil, HM.out]; exact HC7.out, HK7.out⟩
      case round =>
        clear HB7 HC7 HK7
        rename World => wr
        obtain ⟨k, Ac, kc, rows, hk, rfl, hb, h, hkR⟩ := hrel
        rw [HL.out] at hk
        by_cases hkL : k < L
        · have hkl : k < script.length := by rw [HL.out]; exact hkL
          have hbw : Below S w wr := HB.out.trans (hb.mono (by omega))
          obtain ⟨bc, oc, hC, hbc, q0, q1, q2⟩ := (HCS.out.below hbw).at3 (f := fun x : Chg => .int .i64 x.1) (g := fun x : Chg => .int .i64 x.2.1) (p := fun x : Chg => .int .i64 x.2.2) hkl
          subst hC
          obtain ⟨x, hx⟩ : ∃ x, x = script[k] := ⟨_, rfl⟩
          rw [← hx] at q0 q1 q2
          have hnx : playF ws svs (script.take (k + 1)) = stepF ws svs (playF ws svs (script.take k)) x := by
            rw [List.take_succ_eq_append_getElem hkl, ← hx, playF_snoc]
          have hok := CwOk.play (svs := svs) (fun q => by
            rcases Nat.lt_or_ge q ws.length with hq | hq
            · have : wk ws q ∈ ws := by
                unfold wk
                rw [getD_at ws q hq]
                exact List.getElem_mem hq
              exact (HG.out _ this).1
            · unfold wk
              rw [List.getD_eq_getElem?_getD, List.getElem?_eq_none hq]
              exact Int.le_refl _) (script.take k)
          have hcl : (playF ws svs (script.take k)).codes.length = k := by rw [step_codes, List.length_take]; omega
          obtain ⟨c, hc⟩ : ∃ c, c = playF ws svs (script.take k) := ⟨_, rfl⟩
          rw [← hc] at h hnx hok hcl
          have hzw : S + 1 ≤ wr.heap.size := by have := hb.size; rw [HZ.out] at this; exact this
          have hZk := Blk.new wr 41 #[.int .i64 x.1, .int .i64 x.2.1, .int .i64 x.2.2]
          have h2 := h.alloc (.cells #[.int .i64 x.1, .int .i64 x.2.1, .int .i64 x.2.2] 41)
          have hb2 := hb.alloc hzw (.cells #[.int .i64 x.1, .int .i64 x.2.1, .int .i64 x.2.2] 41)
          have hkR2 := hkR.alloc (.cells #[.int .i64 x.1, .int .i64 x.2.1, .int .i64 x.2.2] 41)
          obtain ⟨V5, hV5⟩ : ∃ V5, V5 = wr.alloc (.cells #[.int .i64 x.1, .int .i64 x.2.1, .int .i64 x.2.2] 41) := ⟨_, rfl⟩
          obtain ⟨Z, hZ⟩ : ∃ Z, Z = wr.heap.size := ⟨_, rfl⟩
          rw [← hV5] at hZk h2 hb2 hkR2
          rw [← hZ] at hZk
          have z0 := hZk.cell 0
          have z1 := hZk.cell 1
          have z2 := hZk.cell 2
          have p2 := h2.blk.cell 0
          have HCH := Lib.hid (ref_changed A B W cA cB (S + 1) P m gw gt kc Ac rows c ws svs x V5.drew h2.drew hm12 HW.out hW6 HM.out HG.out hok ((HWS.out.below (HB.out.trans (hb2.drew.mono (by omega)))).more (by omega)) ((HTS.out.below (HB.out.trans (hb2.drew.mono (by omega)))).more (by omega)))
          have HB5 := Lib.hid hb2
          have HKR := Lib.hid hkR2
          have HNX := Lib.hid hnx
          have HV5 := Lib.hid hV5
          have HZZ := Lib.hid hZ
          have HCL := Lib.hid hcl
          have HCC := Lib.hid (chg_codes ws svs c x)
          rw [hcl] at p2
          clear hb h hkR hbw hx hnx hok hcl hc h2 hb2 hkR2 hV5 hZ hZk
          go_wp2_with fail
          rw [← HV5.out, ← HZZ.out]
          refine region_plain 9 10 (fun w' => w'.cell? ⟨P, 0, none⟩ = some (.slice Ac k kc)) (by kernel_rfl) rfl ?_
          refine anyC_reads (by kernel_rfl) [0, 1, 2, 3] ?opr4 ?ohr4 6 _ _ _ (by kernel_rfl) ?okr4
          case ohr4 => (simp only [List.filterMap_cons, List.filterMap_nil, List.getElem?_toArray, List.getElem?_cons_zero, List.getElem?_cons_succ]; try rfl)
          repeat (
            refine readC_step (v := ?_) rfl (fun w' hw' => ?_) ?_
            rotate_left
            focus (have p9 := hw'; go_simp; try with_reducible rfl)
            go_simp)
          refine readC_nil ?_
          refine anyC_one (i := 4) (by kernel_rfl) rfl rfl (.inr p2) ?_
          go_simp
          refine anyC_one (i := 5) (by kernel_rfl) rfl rfl (.inr p2) ?_
          go_simp
          refine HCH.out.mono ?_
          clear HCH
          rintro e w6 ⟨rfl, hb6, rows6, h6⟩
          obtain ⟨er, her⟩ : ∃ er, er = (chgF ws svs c x).2 := ⟨_, rfl⟩
          obtain ⟨c6, hc6⟩ : ∃ c6, c6 = (chgF ws svs c x).1 := ⟨_, rfl⟩
          rw [← hc6] at h6
          rw [← her]
          have hst : stepF ws svs c x = { c6 with codes := c6.codes ++ [er] } := by
            unfold stepF
            rw [← hc6, ← her, hc6, HCC.out]
          have hcl6 : c6.codes.length = k := by rw [hc6, HCC.out]; exact HCL.out
          have hz6 : S + 1 ≤ w6.heap.size := by have := h6.blk.lt; have := h6.hlo; omega
          have hkR6 := HKR.out.drew.below hb6 (by omega)
          have hlit := Blk.new w6 31 #[.int .i64 er]
          have h7 := h6.alloc (.cells #[.int .i64 er] 31)
          have hkR7 := hkR6.alloc (.cells #[.int .i64 er] 31)
          have hb7 := (HB5.out.drew.trans hb6).alloc hz6 (.cells #[.int .i64 er] 31)
          obtain ⟨w7, hw7⟩ : ∃ w7, w7 = w6.alloc (.cells #[.int .i64 er] 31) := ⟨_, rfl⟩
          have hz7 : S + 1 ≤ w7.heap.size := by rw [hw7, size_alloc']; omega
          rw [← hw7] at hlit h7 hkR7 hb7
          have p26 := h6.blk.cell 0
          have p27 := h7.blk.cell 0
          rw [hcl6] at p26 p27
          have H7 := Lib.hid h7
          have HKR7 := Lib.hid hkR7
          have HB7 := Lib.hid hb7
          have HLIT := Lib.hid hlit
          have HST := Lib.hid hst
          have HCL6 := Lib.hid hcl6
          have HW7 := Lib.hid hw7
          clear h6 h7 hkR6 hkR7 hb6 hb7 hlit hst hcl6 her hc6 hw7
          refine anyC_one (i := 6) (by kernel_rfl) rfl rfl (.inr p26) ?_
          go_simp
          rw [← HW7.out]
          refine anyC_one (i := 7) (by kernel_rfl) rfl rfl (.inr p27) ?_
          refine wp_append_els _ _ 25 rfl (S + 1) 1 31 (.int .i64 0) 8 Try.underlying25 (by kernel_rfl) rfl (by omega) icell _ Ac k kc c6.codes HCL6.out rfl H7.out.cod _ 1 1 [er] rfl rfl _ (els_of_blk HLIT.out 1 icell (fun _ => rfl) [er] rfl) (by simp [Value.oneCell']) (by unfold maxLen; omega) (by omega) hz7 ?_
          intro A8 cap8 w8 hown8 hgrow8 hloc8
          have hne : ∀ g, blkOf Ac = some g → S + 1 ≤ g := fun g hg => (H7.out.cod.lt g hg).1
          have hk8 := H7.out.blk.grown hgrow8 (fun e => own_far_blk H7.out.cod H7.out.blk (by decide) e.symm)
          have hkR8 := (HKR7.out.grown hgrow8 (fun e => by have := hne S e.symm; omega)).far (p := ⟨P, 0, none⟩) (by show S ≠ P; omega) (.slice A8 (k + 1) cap8)
          have hb8 := (HB7.out.grown hgrow8 hz7 hne).setCell (p := ⟨P, 0, none⟩) hlP (.slice A8 (k + 1) cap8)
          have hcode := H7.out.code hown8 hgrow8 (n := k + 1) (by rw [List.length_append, HCL6.out]; rfl)
          rw [← HST.out, ← HNX.out] at hcode
          have p28 := hk8.cell 0
          have f28 := hk8.frozen 0
          rw [HCL6.out] at p28
          have HKR8 := Lib.hid hkR8
          have HB8 := Lib.hid hb8
          have HC8 := Lib.hid hcode
          clear hkR8 hb8 hcode hk8 hown8 hgrow8 hloc8 hne
          go_simp
          refine anyC_one (i := 8) (by kernel_rfl) rfl rfl (.inr p28) ?_
          go_simp
          refine anyC_one (i := 9) (by kernel_rfl) rfl rfl (.inr p28) ?_
          go_simp
          refine anyC_end (by kernel_rfl) (.inl rfl) ?_
          go_wp2_with fail
          go_roundw
          case rel => exact ⟨k + 1, A8, cap8, rows6, by rw [HL.out]; omega, by go_num, HB8.out, HC8.out, HKR8.out⟩
          case measure => simp [intOf]; omega
        · obtain rfl : k = L := by omega
          rw [List.take_of_length_le (by rw [HL.out]; exact Nat.le_refl _)] at h
          have hcl : (playF ws svs script).codes.length = k := by rw [step_codes]; exact HL.out
          obtain ⟨c, hc⟩ : ∃ c, c = playF ws svs script := ⟨_, rfl⟩
          rw [← hc] at h hcl
          have p2 := h.blk.cell 0
          have p3 := h.blk.cell 1
          have p4 := h.blk.cell 2
          have p5 := h.blk.cell 3
          rw [hcl] at p2
          have r0 := hkR.cell 0
          have r1 := hkR.cell 1
          have r2 := hkR.cell 2
          have r3 := hkR.cell 3
          have f0 := hkR.frozen 0
          have f1 := hkR.frozen 1
          have f2 := hkR.frozen 2
          have f3 := hkR.frozen 3
          have H := Lib.hid h
          have HKR := Lib.hid hkR
          have HBF := Lib.hid (HB.out.trans (hb.mono (Nat.le_succ S)))
          have HCC := Lib.hid hc
          clear h hkR hb hcl hc
          go_wp2_with fail
          have hk9 := (((HKR.out.put 0 (.slice Ac k kc)).put 1 (.int .u32 (wN c.inn))).put 2 (.slice (some ⟨gw, 0, none⟩) m m)).put 3 (.slice (some ⟨gt, 0, none⟩) m m)
          have hb9 := (((HBF.out.setCell (p := ⟨S, 0, none⟩) (Nat.le_refl _) (.slice Ac k kc)).setCell (p := ⟨S, 1, none⟩) (Nat.le_refl _) (.int .u32 (wN c.inn))).setCell (p := ⟨S, 2, none⟩) (Nat.le_refl _) (.slice (some ⟨gw, 0, none⟩) m m)).setCell (p := ⟨S, 3, none⟩) (Nat.le_refl _) (.slice (some ⟨gt, 0, none⟩) m m)
          have hc9 := ((((H.out.kept (gb_setCell _ S 0 (.slice Ac k kc)) (Nat.lt_succ_self S)).kept (gb_setCell _ S 1 (.int .u32 (wN c.inn))) (Nat.lt_succ_self S)).kept (gb_setCell _ S 2 (.slice (some ⟨gw, 0, none⟩) m m)) (Nat.lt_succ_self S)).kept (gb_setCell _ S 3 (.slice (some ⟨gt, 0, none⟩) m m)) (Nat.lt_succ_self S)).weaken (Nat.le_succ S)
          obtain ⟨W9, hW9⟩ : ∃ W9, W9 = ((((wr.setCell ⟨S, 0, none⟩ (.slice Ac k kc)).setCell ⟨S, 1, none⟩ (.int .u32 (wN c.inn))).setCell ⟨S, 2, none⟩ (.slice (some ⟨gw, 0, none⟩) m m)).setCell ⟨S, 3, none⟩ (.slice (some ⟨gt, 0, none⟩) m m)) := ⟨_, rfl⟩
          rw [← hW9] at hk9 hb9 hc9 ⊢
          have e0 := hk9.cell 0
          have e1 := hk9.cell 1
          have e2 := hk9.cell 2
          have e3 := hk9.cell 3
          clear hW9
          refine bodyPost_ret (v := .agg #[.slice Ac k kc, .int .u32 (wN c.inn), .slice (some ⟨gw, 0, none⟩) m m, .slice (some ⟨gt, 0, none⟩) m m]) ?_ rfl ⟨hb9, P, gw, gt, Ac, kc, rows, by rw [← HCC.out]; exact hc9, by rw [← HCC.out]⟩
          simp [results, Try.results41, go_sem, e0, e1, e2, e3]
  · go_simp
    refine anyD_two (i := 2) (j := 5) (by kernel_rfl) rfl rfl rfl rfl (.inr trivial) ?_ ?_
    · go_simp
      refine anyC_one (i := 5) (by kernel_rfl) rfl rfl (.inr trivial) ?_
      go_simp
      refine anyC_one (i := 6) (by kernel_rfl) rfl rfl (.inr trivial) ?_
      go_simp
      refine anyC_one (i := 8) (by kernel_rfl) rfl rfl (.inr trivial) ?_
      go_simp
      refine anyC_end (by kernel_rfl) (.inl rfl) ?_
      go_wp2_with fail
      have a1 := Blk.new V 30 #[.slice none 0 0, .int .u32 0, .slice (some ⟨S + 1 + 1, 0, none⟩) m m, .slice (some ⟨S + 1 + 1 + 1, 0, none⟩) m m]
      have a2 := Blk.new (V.alloc (.cells #[.slice none 0 0, .int .u32 0, .slice (some ⟨S + 1 + 1, 0, none⟩) m m, .slice (some ⟨S + 1 + 1 + 1, 0, none⟩) m m] 30)) 3 (madeCells #[.int .i64 0] m)
      have a3 := Blk.new ((V.alloc (.cells #[.slice none 0 0, .int .u32 0, .slice (some ⟨S + 1 + 1, 0, none⟩) m m, .slice (some ⟨S + 1 + 1 + 1, 0, none⟩) m m] 30)).alloc (.cells (madeCells #[.int .i64 0] m) 3)) 27 (madeCells #[.slice none 0 0] m)
      rw [hz] at a1
      rw [size_alloc', hz] at a2
      rw [size_alloc', size_alloc', hz] at a3
      obtain ⟨gt, hgt⟩ : ∃ g, g = S + 1 + 1 + 1 := ⟨_, rfl⟩
      try rw [← hgt] at a1
      try rw [← hgt] at a2
      try rw [← hgt] at a3
      try rw [← hgt] at ⊢
      obtain ⟨gw, hgw⟩ : ∃ g, g = S + 1 + 1 := ⟨_, rfl⟩
      try rw [← hgw] at a1
      try rw [← hgw] at a2
      try rw [← hgw] at a3
      try rw [← hgw] at ⊢
      obtain ⟨P, hP⟩ : ∃ g, g = S + 1 := ⟨_, rfl⟩
      try rw [← hP] at a1
      try rw [← hP] at a2
      try rw [← hP] at a3
      try rw [← hP] at ⊢
      have HC7 := Lib.hid (cref_start (lo := S + 1) ((a1.alloc (.cells (madeCells #[.int .i64 0] m) 3)).alloc (.cells (madeCells #[.slice none 0 0] m) 27)) (a2.alloc (.cells (madeCells #[.slice none 0 0] m) 27)) a3 (by unfold maxLen; omega) (by omega) (by omega) (by omega)).drew
      have HB7 := Lib.hid (((((Below.refl (S + 1) V).alloc (by omega) (.cells #[.slice none 0 0, .int .u32 0, .slice (some ⟨gw, 0, none⟩) m m, .slice (some ⟨gt, 0, none⟩) m m] 30)).alloc (by rw [size_alloc']; omega) (.cells (madeCells #[.int .i64 0] m) 3)).alloc (by rw [size_alloc', size_alloc']; omega) (.cells (madeCells #[.slice none 0 0] m) 27)).drew)
      have HK7 := Lib.hid ((((HK.out.alloc (.cells #[.slice none 0 0, .int .u32 0, .slice (some ⟨gw, 0, none⟩) m m, .slice (some ⟨gt, 0, none⟩) m m] 30)).alloc (.cells (madeCells #[.int .i64 0] m) 3)).alloc (.cells (madeCells #[.slice none 0 0] m) 27)).drew)
      have hlP : S + 1 ≤ P := by omega
      obtain ⟨X, hX⟩ : ∃ X, X = (((V.alloc (.cells #[.slice none 0 0, .int .u32 0, .slice (some ⟨gw, 0, none⟩) m m, .slice (some ⟨gt, 0, none⟩) m m] 30)).alloc (.cells (madeCells #[.int .i64 0] m) 3)).alloc (.cells (madeCells #[.slice none 0 0] m) 27)).drew := ⟨_, rfl⟩
      rw [← hX] at HC7 HB7 HK7 ⊢
      clear a1 a2 a3 hX hmW hmT hdz hgw hgt hP
      go_loopw [19] (fun s19 wr => PlayJ S P m gw gt ws svs script V s19 wr) (fun s19 _ => L - (intOf s19).toNat)
      case atStart => exact ⟨0, none, 0, _, Nat.zero_le _, rfl, HB7.out, by rw [List.take_zero]; unfold playF; rw [List.foldl_nil, HM.out]; exact HC7.out, HK7.out⟩
      case round =>
        clear HB7 HC7 HK7
        rename World => wr
        obtain ⟨k, Ac, kc, rows, hk, rfl, hb, h, hkR⟩ := hrel
        rw [HL.out] at hk
        by_cases hkL : k < L
        · have hkl : k < script.length := by rw [HL.out]; exact hkL
          have hbw : Below S w wr := HB.out.trans (hb.mono (by omega))
          obtain ⟨bc, oc, hC, hbc, q0, q1, q2⟩ := (HCS.out.below hbw).at3 (f := fun x : Chg => .int .i64 x.1) (g := fun x : Chg => .int .i64 x.2.1) (p := fun x : Chg => .int .i64 x.2.2) hkl
          subst hC
          obtain ⟨x, hx⟩ : ∃ x, x = script[k] := ⟨_, rfl⟩
          rw [← hx] at q0 q1 q2
          have hnx : playF ws svs (script.take (k + 1)) = stepF ws svs (playF ws svs (script.take k)) x := by
            rw [List.take_succ_eq_append_getElem hkl, ← hx, playF_snoc]
          have hok := CwOk.play (svs := svs) (fun q => by
            rcases Nat.lt_or_ge q ws.length with hq | hq
            · have : wk ws q ∈ ws := by
                unfold wk
                rw [getD_at ws q hq]
                exact List.getElem_mem hq
              exact (HG.out _ this).1
            · unfold wk
              rw [List.getD_eq_getElem?_getD, List.getElem?_eq_none hq]
              exact Int.le_refl _) (script.take k)
          have hcl : (playF ws svs (script.take k)).codes.length = k := by rw [step_codes, List.length_take]; omega
          obtain ⟨c, hc⟩ : ∃ c, c = playF ws svs (script.take k) := ⟨_, rfl⟩
          rw [← hc] at h hnx hok hcl
          have hzw : S + 1 ≤ wr.heap.size := by have := hb.size; rw [HZ.out] at this; exact this
          have hZk := Blk.new wr 41 #[.int .i64 x.1, .int .i64 x.2.1, .int .i64 x.2.2]
          have h2 := h.alloc (.cells #[.int .i64 x.1, .int .i64 x.2.1, .int .i64 x.2.2] 41)
          have hb2 := hb.alloc hzw (.cells #[.int .i64 x.1, .int .i64 x.2.1, .int .i64 x.2.2] 41)
          have hkR2 := hkR.alloc (.cells #[.int .i64 x.1, .int .i64 x.2.1, .int .i64 x.2.2] 41)
          obtain ⟨V5, hV5⟩ : ∃ V5, V5 = wr.alloc (.cells #[.int .i64 x.1, .int .i64 x.2.1, .int .i64 x.2.2] 41) := ⟨_, rfl⟩
          obtain ⟨Z, hZ⟩ : ∃ Z, Z = wr.heap.size := ⟨_, rfl⟩
          rw [← hV5] at hZk h2 hb2 hkR2
          rw [← hZ] at hZk
          have z0 := hZk.cell 0
          have z1 := hZk.cell 1
          have z2 := hZk.cell 2
          have p2 := h2.blk.cell 0
          have HCH := Lib.hid (ref_changed A B W cA cB (S + 1) P m gw gt kc Ac rows c ws svs x V5.drew h2.drew hm12 HW.out hW6 HM.out HG.out hok ((HWS.out.below (HB.out.trans (hb2.drew.mono (by omega)))).more (by omega)) ((HTS.out.below (HB.out.trans (hb2.drew.mono (by omega)))).more (by omega)))
          have HB5 := Lib.hid hb2
          have HKR := Lib.hid hkR2
          have HNX := Lib.hid hnx
          have HV5 := Lib.hid hV5
          have HZZ := Lib.hid hZ
          have HCL := Lib.hid hcl
          have HCC := Lib.hid (chg_codes ws svs c x)
          rw [hcl] at p2
          clear hb h hkR hbw hx hnx hok hcl hc h2 hb2 hkR2 hV5 hZ hZk
          go_wp2_with fail
          rw [← HV5.out, ← HZZ.out]
          refine region_plain 9 10 (fun w' => w'.cell? ⟨P, 0, none⟩ = some (.slice Ac k kc)) (by kernel_rfl) rfl ?_
          refine anyC_reads (by kernel_rfl) [0, 1, 2, 3] ?opr5 ?ohr5 6 _ _ _ (by kernel_rfl) ?okr5
          case ohr5 => (simp only [List.filterMap_cons, List.filterMap_nil, List.getElem?_toArray, List.getElem?_cons_zero, List.getElem?_cons_succ]; try rfl)
          repeat (
            refine readC_step (v := ?_) rfl (fun w' hw' => ?_) ?_
            rotate_left
            focus (have p9 := hw'; go_simp; try with_reducible rfl)
            go_simp)
          refine readC_nil ?_
          refine anyC_one (i := 4) (by kernel_rfl) rfl rfl (.inr p2) ?_
          go_simp
          refine anyC_one (i := 5) (by kernel_rfl) rfl rfl (.inr p2) ?_
          go_simp
          refine HCH.out.mono ?_
          clear HCH
          rintro e w6 ⟨rfl, hb6, rows6, h6⟩
          obtain ⟨er, her⟩ : ∃ er, er = (chgF ws svs c x).2 := ⟨_, rfl⟩
          obtain ⟨c6, hc6⟩ : ∃ c6, c6 = (chgF ws svs c x).1 := ⟨_, rfl⟩
          rw [← hc6] at h6
          rw [← her]
          have hst : stepF ws svs c x = { c6 with codes := c6.codes ++ [er] } := by
            unfold stepF
            rw [← hc6, ← her, hc6, HCC.out]
          have hcl6 : c6.codes.length = k := by rw [hc6, HCC.out]; exact HCL.out
          have hz6 : S + 1 ≤ w6.heap.size := by have := h6.blk.lt; have := h6.hlo; omega
          have hkR6 := HKR.out.drew.below hb6 (by omega)
          have hlit := Blk.new w6 31 #[.int .i64 er]
          have h7 := h6.alloc (.cells #[.int .i64 er] 31)
          have hkR7 := hkR6.alloc (.cells #[.int .i64 er] 31)
          have hb7 := (HB5.out.drew.trans hb6).alloc hz6 (.cells #[.int .i64 er] 31)
          obtain ⟨w7, hw7⟩ : ∃ w7, w7 = w6.alloc (.cells #[.int .i64 er] 31) := ⟨_, rfl⟩
          have hz7 : S + 1 ≤ w7.heap.size := by rw [hw7, size_alloc']; omega
          rw [← hw7] at hlit h7 hkR7 hb7
          have p26 := h6.blk.cell 0
          have p27 := h7.blk.cell 0
          rw [hcl6] at p26 p27
          have H7 := Lib.hid h7
          have HKR7 := Lib.hid hkR7
          have HB7 := Lib.hid hb7
          have HLIT := Lib.hid hlit
          have HST := Lib.hid hst
          have HCL6 := Lib.hid hcl6
          have HW7 := Lib.hid hw7
          clear h6 h7 hkR6 hkR7 hb6 hb7 hlit hst hcl6 her hc6 hw7
          refine anyC_one (i := 6) (by kernel_rfl) rfl rfl (.inr p26) ?_
          go_simp
          rw [← HW7.out]
          refine anyC_one (i := 7) (by kernel_rfl) rfl rfl (.inr p27) ?_
          refine wp_append_els _ _ 25 rfl (S + 1) 1 31 (.int .i64 0) 8 Try.underlying25 (by kernel_rfl) rfl (by omega) icell _ Ac k kc c6.codes HCL6.out rfl H7.out.cod _ 1 1 [er] rfl rfl _ (els_of_blk HLIT.out 1 icell (fun _ => rfl) [er] rfl) (by simp [Value.oneCell']) (by unfold maxLen; omega) (by omega) hz7 ?_
          intro A8 cap8 w8 hown8 hgrow8 hloc8
          have hne : ∀ g, blkOf Ac = some g → S + 1 ≤ g := fun g hg => (H7.out.cod.lt g hg).1
          have hk8 := H7.out.blk.grown hgrow8 (fun e => own_far_blk H7.out.cod H7.out.blk (by decide) e.symm)
          have hkR8 := (HKR7.out.grown hgrow8 (fun e => by have := hne S e.symm; omega)).far (p := ⟨P, 0, none⟩) (by show S ≠ P; omega) (.slice A8 (k + 1) cap8)
          have hb8 := (HB7.out.grown hgrow8 hz7 hne).setCell (p := ⟨P, 0, none⟩) hlP (.slice A8 (k + 1) cap8)
          have hcode := H7.out.code hown8 hgrow8 (n := k + 1) (by rw [List.length_append, HCL6.out]; rfl)
          rw [← HST.out, ← HNX.out] at hcode
          have p28 := hk8.cell 0
          have f28 := hk8.frozen 0
          rw [HCL6.out] at p28
          have HKR8 := Lib.hid hkR8
          have HB8 := Lib.hid hb8
          have HC8 := Lib.hid hcode
          clear hkR8 hb8 hcode hk8 hown8 hgrow8 hloc8 hne
          go_simp
          refine anyC_one (i := 8) (by kernel_rfl) rfl rfl (.inr p28) ?_
          go_simp
          refine anyC_one (i := 9) (by kernel_rfl) rfl rfl (.inr p28) ?_
          go_simp
          refine anyC_end (by kernel_rfl) (.inl rfl) ?_
          go_wp2_with fail
          go_roundw
          case rel => exact ⟨k + 1, A8, cap8, rows6, by rw [HL.out]; omega, by go_num, HB8.out, HC8.out, HKR8.out⟩
          case measure => simp [intOf]; omega
        · obtain rfl : k = L := by omega
          rw [List.take_of_length_le (by rw [HL.out]; exact Nat.le_refl _)] at h
          have hcl : (playF ws svs script).codes.length = k := by rw [step_codes]; exact HL.out
          obtain ⟨c, hc⟩ : ∃ c, c = playF ws svs script := ⟨_, rfl⟩
          rw [← hc] at h hcl
          have p2 := h.blk.cell 0
          have p3 := h.blk.cell 1
          have p4 := h.blk.cell 2
          have p5 := h.blk.cell 3
          rw [hcl] at p2
          have r0 := hkR.cell 0
          have r1 := hkR.cell 1
          have r2 := hkR.cell 2
          have r3 := hkR.cell 3
          have f0 := hkR.frozen 0
          have f1 := hkR.frozen 1
          have f2 := hkR.frozen 2
          have f3 := hkR.frozen 3
          have H := Lib.hid h
          have HKR := Lib.hid hkR
          have HBF := Lib.hid (HB.out.trans (hb.mono (Nat.le_succ S)))
          have HCC := Lib.hid hc
          clear h hkR hb hcl hc
          go_wp2_with fail
          have hk9 := (((HKR.out.put 0 (.slice Ac k kc)).put 1 (.int .u32 (wN c.inn))).put 2 (.slice (some ⟨gw, 0, none⟩) m m)).put 3 (.slice (some ⟨gt, 0, none⟩) m m)
          have hb9 := (((HBF.out.setCell (p := ⟨S, 0, none⟩) (Nat.le_refl _) (.slice Ac k kc)).setCell (p := ⟨S, 1, none⟩) (Nat.le_refl _) (.int .u32 (wN c.inn))).setCell (p := ⟨S, 2, none⟩) (Nat.le_refl _) (.slice (some ⟨gw, 0, none⟩) m m)).setCell (p := ⟨S, 3, none⟩) (Nat.le_refl _) (.slice (some ⟨gt, 0, none⟩) m m)
          have hc9 := ((((H.out.kept (gb_setCell _ S 0 (.slice Ac k kc)) (Nat.lt_succ_self S)).kept (gb_setCell _ S 1 (.int .u32 (wN c.inn))) (Nat.lt_succ_self S)).kept (gb_setCell _ S 2 (.slice (some ⟨gw, 0, none⟩) m m)) (Nat.lt_succ_self S)).kept (gb_setCell _ S 3 (.slice (some ⟨gt, 0, none⟩) m m)) (Nat.lt_succ_self S)).weaken (Nat.le_succ S)
          obtain ⟨W9, hW9⟩ : ∃ W9, W9 = ((((wr.setCell ⟨S, 0, none⟩ (.slice Ac k kc)).setCell ⟨S, 1, none⟩ (.int .u32 (wN c.inn))).setCell ⟨S, 2, none⟩ (.slice (some ⟨gw, 0, none⟩) m m)).setCell ⟨S, 3, none⟩ (.slice (some ⟨gt, 0, none⟩) m m)) := ⟨_, rfl⟩
          rw [← hW9] at hk9 hb9 hc9 ⊢
          have e0 := hk9.cell 0
          have e1 := hk9.cell 1
          have e2 := hk9.cell 2
          have e3 := hk9.cell 3
          clear hW9
          refine bodyPost_ret (v := .agg #[.slice Ac k kc, .int .u32 (wN c.inn), .slice (some ⟨gw, 0, none⟩) m m, .slice (some ⟨gt, 0, none⟩) m m]) ?_ rfl ⟨hb9, P, gw, gt, Ac, kc, rows, by rw [← HCC.out]; exact hc9, by rw [← HCC.out]⟩
          simp [results, Try.results41, go_sem, e0, e1, e2, e3]
    · go_simp
      refine anyC_one (i := 2) (by kernel_rfl) rfl rfl (.inr trivial) ?_
      go_simp
      refine anyC_one (i := 6) (by kernel_rfl) rfl rfl (.inr trivial) ?_
      go_simp
      refine anyC_one (i := 8) (by kernel_rfl) rfl rfl (.inr trivial) ?_
      go_simp
      refine anyC_end (by kernel_rfl) (.inl rfl) ?_
      go_wp2_with fail
      have a1 := Blk.new V 30 #[.slice none 0 0, .int .u32 0, .slice (some ⟨S + 1 + 1 + 1, 0, none⟩) m m, .slice (some ⟨S + 1 + 1, 0, none⟩) m m]
      have a2 := Blk.new (V.alloc (.cells #[.slice none 0 0, .int .u32 0, .slice (some ⟨S + 1 + 1 + 1, 0, none⟩) m m, .slice (some ⟨S + 1 + 1, 0, none⟩) m m] 30)) 27 (madeCells #[.slice none 0 0] m)
      have a3 := Blk.new ((V.alloc (.cells #[.slice none 0 0, .int .u32 0, .slice (some ⟨S + 1 + 1 + 1, 0, none⟩) m m, .slice (some ⟨S + 1 + 1, 0, none⟩) m m] 30)).alloc (.cells (madeCells #[.slice none 0 0] m) 27)) 3 (madeCells #[.int .i64 0] m)
      rw [hz] at a1
      rw [size_alloc', hz] at a2
      rw [size_alloc', size_alloc', hz] at a3
      obtain ⟨gw, hgw⟩ : ∃ g, g = S + 1 + 1 + 1 := ⟨_, rfl⟩
      try rw [← hgw] at a1
      try rw [← hgw] at a2
      try rw [← hgw] at a3
      try rw [← hgw] at ⊢
      obtain ⟨gt, hgt⟩ : ∃ g, g = S + 1 + 1 := ⟨_, rfl⟩
      try rw [← hgt] at a1
      try rw [← hgt] at a2
      try rw [← hgt] at a3
      try rw [← hgt] at ⊢
      obtain ⟨P, hP⟩ : ∃ g, g = S + 1 := ⟨_, rfl⟩
      try rw [← hP] at a1
      try rw [← hP] at a2
      try rw [← hP] at a3
      try rw [← hP] at ⊢
      have HC7 := Lib.hid (cref_start (lo := S + 1) ((a1.alloc (.cells (madeCells #[.slice none 0 0] m) 27)).alloc (.cells (madeCells #[.int .i64 0] m) 3)) a3 (a2.alloc (.cells (madeCells #[.int .i64 0] m) 3)) (by unfold maxLen; omega) (by omega) (by omega) (by omega)).drew
      have HB7 := Lib.hid (((((Below.refl (S + 1) V).alloc (by omega) (.cells #[.slice none 0 0, .int .u32 0, .slice (some ⟨gw, 0, none⟩) m m, .slice (some ⟨gt, 0, none⟩) m m] 30)).alloc (by rw [size_alloc']; omega) (.cells (madeCells #[.slice none 0 0] m) 27)).alloc (by rw [size_alloc', size_alloc']; omega) (.cells (madeCells #[.int .i64 0] m) 3)).drew)
      have HK7 := Lib.hid ((((HK.out.alloc (.cells #[.slice none 0 0, .int .u32 0, .slice (some ⟨gw, 0, none⟩) m m, .slice (some ⟨gt, 0, none⟩) m m] 30)).alloc (.cells (madeCells #[.slice none 0 0] m) 27)).alloc (.cells (madeCells #[.int .i64 0] m) 3)).drew)
      have hlP : S + 1 ≤ P := by omega
      obtain ⟨X, hX⟩ : ∃ X, X = (((V.alloc (.cells #[.slice none 0 0, .int .u32 0, .slice (some ⟨gw, 0, none⟩) m m, .slice (some ⟨gt, 0, none⟩) m m] 30)).alloc (.cells (madeCells #[.slice none 0 0] m) 27)).alloc (.cells (madeCells #[.int .i64 0] m) 3)).drew := ⟨_, rfl⟩
      rw [← hX] at HC7 HB7 HK7 ⊢
      clear a1 a2 a3 hX hmW hmT hdz hgw hgt hP
      go_loopw [19] (fun s19 wr => PlayJ S P m gw gt ws svs script V s19 wr) (fun s19 _ => L - (intOf s19).toNat)
      case atStart => exact ⟨0, none, 0, _, Nat.zero_le _, rfl, HB7.out, by rw [List.take_zero]; unfold playF; rw [List.foldl_nil, HM.out]; exact HC7.out, HK7.out⟩
      case round =>
        clear HB7 HC7 HK7
        rename World => wr
        obtain ⟨k, Ac, kc, rows, hk, rfl, hb, h, hkR⟩ := hrel
        rw [HL.out] at hk
        by_cases hkL : k < L
        · have hkl : k < script.length := by rw [HL.out]; exact hkL
          have hbw : Below S w wr := HB.out.trans (hb.mono (by omega))
          obtain ⟨bc, oc, hC, hbc, q0, q1, q2⟩ := (HCS.out.below hbw).at3 (f := fun x : Chg => .int .i64 x.1) (g := fun x : Chg => .int .i64 x.2.1) (p := fun x : Chg => .int .i64 x.2.2) hkl
          subst hC
          obtain ⟨x, hx⟩ : ∃ x, x = script[k] := ⟨_, rfl⟩
          rw [← hx] at q0 q1 q2
          have hnx : playF ws svs (script.take (k + 1)) = stepF ws svs (playF ws svs (script.take k)) x := by
            rw [List.take_succ_eq_append_getElem hkl, ← hx, playF_snoc]
          have hok := CwOk.play (svs := svs) (fun q => by
            rcases Nat.lt_or_ge q ws.length with hq | hq
            · have : wk ws q ∈ ws := by
                unfold wk
                rw [getD_at ws q hq]
                exact List.getElem_mem hq
              exact (HG.out _ this).1
            · unfold wk
              rw [List.getD_eq_getElem?_getD, List.getElem?_eq_none hq]
              exact Int.le_refl _) (script.take k)
          have hcl : (playF ws svs (script.take k)).codes.length = k := by rw [step_codes, List.length_take]; omega
          obtain ⟨c, hc⟩ : ∃ c, c = playF ws svs (script.take k) := ⟨_, rfl⟩
          rw [← hc] at h hnx hok hcl
          have hzw : S + 1 ≤ wr.heap.size := by have := hb.size; rw [HZ.out] at this; exact this
          have hZk := Blk.new wr 41 #[.int .i64 x.1, .int .i64 x.2.1, .int .i64 x.2.2]
          have h2 := h.alloc (.cells #[.int .i64 x.1, .int .i64 x.2.1, .int .i64 x.2.2] 41)
          have hb2 := hb.alloc hzw (.cells #[.int .i64 x.1, .int .i64 x.2.1, .int .i64 x.2.2] 41)
          have hkR2 := hkR.alloc (.cells #[.int .i64 x.1, .int .i64 x.2.1, .int .i64 x.2.2] 41)
          obtain ⟨V5, hV5⟩ : ∃ V5, V5 = wr.alloc (.cells #[.int .i64 x.1, .int .i64 x.2.1, .int .i64 x.2.2] 41) := ⟨_, rfl⟩
          obtain ⟨Z, hZ⟩ : ∃ Z, Z = wr.heap.size := ⟨_, rfl⟩
          rw [← hV5] at hZk h2 hb2 hkR2
          rw [← hZ] at hZk
          have z0 := hZk.cell 0
          have z1 := hZk.cell 1
          have z2 := hZk.cell 2
          have p2 := h2.blk.cell 0
          have HCH := Lib.hid (ref_changed A B W cA cB (S + 1) P m gw gt kc Ac rows c ws svs x V5.drew h2.drew hm12 HW.out hW6 HM.out HG.out hok ((HWS.out.below (HB.out.trans (hb2.drew.mono (by omega)))).more (by omega)) ((HTS.out.below (HB.out.trans (hb2.drew.mono (by omega)))).more (by omega)))
          have HB5 := Lib.hid hb2
          have HKR := Lib.hid hkR2
          have HNX := Lib.hid hnx
          have HV5 := Lib.hid hV5
          have HZZ := Lib.hid hZ
          have HCL := Lib.hid hcl
          have HCC := Lib.hid (chg_codes ws svs c x)
          rw [hcl] at p2
          clear hb h hkR hbw hx hnx hok hcl hc h2 hb2 hkR2 hV5 hZ hZk
          go_wp2_with fail
          rw [← HV5.out, ← HZZ.out]
          refine region_plain 9 10 (fun w' => w'.cell? ⟨P, 0, none⟩ = some (.slice Ac k kc)) (by kernel_rfl) rfl ?_
          refine anyC_reads (by kernel_rfl) [0, 1, 2, 3] ?opr6 ?ohr6 6 _ _ _ (by kernel_rfl) ?okr6
          case ohr6 => (simp only [List.filterMap_cons, List.filterMap_nil, List.getElem?_toArray, List.getElem?_cons_zero, List.getElem?_cons_succ]; try rfl)
          repeat (
            refine readC_step (v := ?_) rfl (fun w' hw' => ?_) ?_
            rotate_left
            focus (have p9 := hw'; go_simp; try with_reducible rfl)
            go_simp)
          refine readC_nil ?_
          refine anyC_one (i := 4) (by kernel_rfl) rfl rfl (.inr p2) ?_
          go_simp
          refine anyC_one (i := 5) (by kernel_rfl) rfl rfl (.inr p2) ?_
          go_simp
          refine HCH.out.mono ?_
          clear HCH
          rintro e w6 ⟨rfl, hb6, rows6, h6⟩
          obtain ⟨er, her⟩ : ∃ er, er = (chgF ws svs c x).2 := ⟨_, rfl⟩
          obtain ⟨c6, hc6⟩ : ∃ c6, c6 = (chgF ws svs c x).1 := ⟨_, rfl⟩
          rw [← hc6] at h6
          rw [← her]
          have hst : stepF ws svs c x = { c6 with codes := c6.codes ++ [er] } := by
            unfold stepF
            rw [← hc6, ← her, hc6, HCC.out]
          have hcl6 : c6.codes.length = k := by rw [hc6, HCC.out]; exact HCL.out
          have hz6 : S + 1 ≤ w6.heap.size := by have := h6.blk.lt; have := h6.hlo; omega
          have hkR6 := HKR.out.drew.below hb6 (by omega)
          have hlit := Blk.new w6 31 #[.int .i64 er]
          have h7 := h6.alloc (.cells #[.int .i64 er] 31)
          have hkR7 := hkR6.alloc (.cells #[.int .i64 er] 31)
          have hb7 := (HB5.out.drew.trans hb6).alloc hz6 (.cells #[.int .i64 er] 31)
          obtain ⟨w7, hw7⟩ : ∃ w7, w7 = w6.alloc (.cells #[.int .i64 er] 31) := ⟨_, rfl⟩
          have hz7 : S + 1 ≤ w7.heap.size := by rw [hw7, size_alloc']; omega
          rw [← hw7] at hlit h7 hkR7 hb7
          have p26 := h6.blk.cell 0
          have p27 := h7.blk.cell 0
          rw [hcl6] at p26 p27
          have H7 := Lib.hid h7
          have HKR7 := Lib.hid hkR7
          have HB7 := Lib.hid hb7
          have HLIT := Lib.hid hlit
          have HST := Lib.hid hst
          have HCL6 := Lib.hid hcl6
          have HW7 := Lib.hid hw7
          clear h6 h7 hkR6 hkR7 hb6 hb7 hlit hst hcl6 her hc6 hw7
          refine anyC_one (i := 6) (by kernel_rfl) rfl rfl (.inr p26) ?_
          go_simp
          rw [← HW7.out]
          refine anyC_one (i := 7) (by kernel_rfl) rfl rfl (.inr p27) ?_
          refine wp_append_els _ _ 25 rfl (S + 1) 1 31 (.int .i64 0) 8 Try.underlying25 (by kernel_rfl) rfl (by omega) icell _ Ac k kc c6.codes HCL6.out rfl H7.out.cod _ 1 1 [er] rfl rfl _ (els_of_blk HLIT.out 1 icell (fun _ => rfl) [er] rfl) (by simp [Value.oneCell']) (by unfold maxLen; omega) (by omega) hz7 ?_
          intro A8 cap8 w8 hown8 hgrow8 hloc8
          have hne : ∀ g, blkOf Ac = some g → S + 1 ≤ g := fun g hg => (H7.out.cod.lt g hg).1
          have hk8 := H7.out.blk.grown hgrow8 (fun e => own_far_blk H7.out.cod H7.out.blk (by decide) e.symm)
          have hkR8 := (HKR7.out.grown hgrow8 (fun e => by have := hne S e.symm; omega)).far (p := ⟨P, 0, none⟩) (by show S ≠ P; omega) (.slice A8 (k + 1) cap8)
          have hb8 := (HB7.out.grown hgrow8 hz7 hne).setCell (p := ⟨P, 0, none⟩) hlP (.slice A8 (k + 1) cap8)
          have hcode := H7.out.code hown8 hgrow8 (n := k + 1) (by rw [List.length_append, HCL6.out]; rfl)
          rw [← HST.out, ← HNX.out] at hcode
          have p28 := hk8.cell 0
          have f28 := hk8.frozen 0
          rw [HCL6.out] at p28
          have HKR8 := Lib.hid hkR8
          have HB8 := Lib.hid hb8
          have HC8 := Lib.hid hcode
          clear hkR8 hb8 hcode hk8 hown8 hgrow8 hloc8 hne
          go_simp
          refine anyC_one (i := 8) (by kernel_rfl) rfl rfl (.inr p28) ?_
          go_simp
          refine anyC_one (i := 9) (by kernel_rfl) rfl rfl (.inr p28) ?_
          go_simp
          refine anyC_end (by kernel_rfl) (.inl rfl) ?_
          go_wp2_with fail
          go_roundw
          case rel => exact ⟨k + 1, A8, cap8, rows6, by rw [HL.out]; omega, by go_num, HB8.out, HC8.out, HKR8.out⟩
          case measure => simp [intOf]; omega
        · obtain rfl : k = L := by omega
          rw [List.take_of_length_le (by rw [HL.out]; exact Nat.le_refl _)] at h
          have hcl : (playF ws svs script).codes.length = k := by rw [step_codes]; exact HL.out
          obtain ⟨c, hc⟩ : ∃ c, c = playF ws svs script := ⟨_, rfl⟩
          rw [← hc] at h hcl
          have p2 := h.blk.cell 0
          have p3 := h.blk.cell 1
          have p4 := h.blk.cell 2
          have p5 := h.blk.cell 3
          rw [hcl] at p2
          have r0 := hkR.cell 0
          have r1 := hkR.cell 1
          have r2 := hkR.cell 2
          have r3 := hkR.cell 3
          have f0 := hkR.frozen 0
          have f1 := hkR.frozen 1
          have f2 := hkR.frozen 2
          have f3 := hkR.frozen 3
          have H := Lib.hid h
          have HKR := Lib.hid hkR
          have HBF := Lib.hid (HB.out.trans (hb.mono (Nat.le_succ S)))
          have HCC := Lib.hid hc
          clear h hkR hb hcl hc
          go_wp2_with fail
          have hk9 := (((HKR.out.put 0 (.slice Ac k kc)).put 1 (.int .u32 (wN c.inn))).put 2 (.slice (some ⟨gw, 0, none⟩) m m)).put 3 (.slice (some ⟨gt, 0, none⟩) m m)
          have hb9 := (((HBF.out.setCell (p := ⟨S, 0, none⟩) (Nat.le_refl _) (.slice Ac k kc)).setCell (p := ⟨S, 1, none⟩) (Nat.le_refl _) (.int .u32 (wN c.inn))).setCell (p := ⟨S, 2, none⟩) (Nat.le_refl _) (.slice (some ⟨gw, 0, none⟩) m m)).setCell (p := ⟨S, 3, none⟩) (Nat.le_refl _) (.slice (some ⟨gt, 0, none⟩) m m)
          have hc9 := ((((H.out.kept (gb_setCell _ S 0 (.slice Ac k kc)) (Nat.lt_succ_self S)).kept (gb_setCell _ S 1 (.int .u32 (wN c.inn))) (Nat.lt_succ_self S)).kept (gb_setCell _ S 2 (.slice (some ⟨gw, 0, none⟩) m m)) (Nat.lt_succ_self S)).kept (gb_setCell _ S 3 (.slice (some ⟨gt, 0, none⟩) m m)) (Nat.lt_succ_self S)).weaken (Nat.le_succ S)
          obtain ⟨W9, hW9⟩ : ∃ W9, W9 = ((((wr.setCell ⟨S, 0, none⟩ (.slice Ac k kc)).setCell ⟨S, 1, none⟩ (.int .u32 (wN c.inn))).setCell ⟨S, 2, none⟩ (.slice (some ⟨gw, 0, none⟩) m m)).setCell ⟨S, 3, none⟩ (.slice (some ⟨gt, 0, none⟩) m m)) := ⟨_, rfl⟩
          rw [← hW9] at hk9 hb9 hc9 ⊢
          have e0 := hk9.cell 0
          have e1 := hk9.cell 1
          have e2 := hk9.cell 2
          have e3 := hk9.cell 3
          clear hW9
          refine bodyPost_ret (v := .agg #[.slice Ac k kc, .int .u32 (wN c.inn), .slice (some ⟨gw, 0, none⟩) m m, .slice (some ⟨gt, 0, none⟩) m m]) ?_ rfl ⟨hb9, P, gw, gt, Ac, kc, rows, by rw [← HCC.out]; exact hc9, by rw [← HCC.out]⟩
          simp [results, Try.results41, go_sem, e0, e1, e2, e3]
end Go.Proofs.Ytdinknpagklkjaa
