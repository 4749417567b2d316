/- Is it a flow, and of which value: what the reference computes of a flow. Conditions: the arcs and what goes read as lists. -/
import Derived.Test.YtjkfogkpacmdlaaFeeLeast36
namespace Go.Proofs.Ytjkfogkpacmdlaa
open Go.RowKit

theorem netO_snoc {a : Arc} {g : Int} (j : Int) : ∀ {l : List Arc} {gs : List Int}, gs.length = l.length → netO (l ++ [a]) (gs ++ [g]) j = netO l gs j + (if a.f = j then g else 0) - (if a.t = j then g else 0)
  | [], [], _ => by
    show (if a.f = j then g else 0) - (if a.t = j then g else 0) + 0 = 0 + _ - _
    omega
  | b :: l, h :: gs, hl => by
    have := netO_snoc (a := a) (g := g) j (l := l) (gs := gs) (by simpa using hl)
    rw [List.cons_append, List.cons_append]
    unfold netO
    rw [this]
    omega
  | [], h :: gs, hl => by simp at hl
  | b :: l, [], hl => by simp at hl
def netL (N : Nat) (l : List Arc) (gs : List Int) : List Int := (List.range N).map fun j : Nat => netO l gs j
theorem netL_length (N : Nat) (l : List Arc) (gs : List Int) : (netL N l gs).length = N := by simp [netL]
theorem netL_at {N j : Nat} (l : List Arc) (gs : List Int) (hj : j < N) : (netL N l gs).getD j 0 = netO l gs j := by
  rw [getD_at _ j (by rw [netL_length]; exact hj)]
  simp [netL]
theorem netL_snoc {N f t : Nat} {m e : Int} {g : Int} {l : List Arc} {gs : List Int} (hl : gs.length = l.length) (hf : f < N) (ht : t < N) (hft : f ≠ t) :
    netL N (l ++ [⟨f, t, m, e⟩]) (gs ++ [g]) = ((netL N l gs).set f ((netL N l gs).getD f 0 + g)).set t ((netL N l gs).getD t 0 - g) := by
  refine List.ext_getElem (by simp [netL_length]) fun i h1 h2 => ?_
  rw [netL_length] at h1
  have e1 : (netL N (l ++ [⟨f, t, m, e⟩]) (gs ++ [g]))[i]'(by rw [netL_length]; exact h1) = netO (l ++ [⟨f, t, m, e⟩]) (gs ++ [g]) i := by simp [netL]
  have e2 : (netL N l gs)[i]'(by rw [netL_length]; exact h1) = netO l gs i := by simp [netL]
  rw [e1, netO_snoc _ hl, List.getElem_set, List.getElem_set, e2, netL_at _ _ hf, netL_at _ _ ht]
  show netO l gs i + (if (f : Int) = i then g else 0) - (if (t : Int) = i then g else 0) = _
  by_cases h3 : t = i
  · subst h3
    rw [if_neg (by omega), if_pos rfl, if_pos rfl]
    omega
  · rw [if_neg (show ¬ t = i from h3), if_neg (show ¬ ((t : Nat) : Int) = i by omega)]
    by_cases h4 : f = i
    · subst h4
      rw [if_pos rfl, if_pos rfl]
      omega
    · rw [if_neg (show ¬ f = i from h4), if_neg (show ¬ ((f : Nat) : Int) = i by omega)]
      omega
theorem netO_bound {l : List Arc} {gs : List Int} (hc : CapOk l gs) (hM : ∀ a ∈ l, a.m ≤ 1048576) (j : Int) (k : Nat) : -(1048576 * k) ≤ netO (l.take k) (gs.take k) j ∧ netO (l.take k) (gs.take k) j ≤ 1048576 * k := by
  induction k generalizing l gs with
  | zero => simp [netO]
  | succ k ih =>
    match l, gs, hc with
    | [], [], _ => simp [netO]; omega
    | a :: l, g :: gs, hc =>
      have h1 := ih hc.2 (fun b hb => hM b (List.mem_cons_of_mem _ hb))
      have h2 := hM a List.mem_cons_self
      obtain ⟨h3, h4⟩ := hc.1
      rw [List.take_succ_cons, List.take_succ_cons]
      unfold netO
      split <;> split <;> omega
    | [], g :: gs, h => exact h.elim
    | a :: l, [], h => exact h.elim

set_option maxRecDepth 100000 in
set_option maxHeartbeats 2000000 in
theorem ref_Flows (N m c cg : Nat) (A G : Option Addr) (l : List Arc) (gs : List Int) (s t : Nat) (v : Int) (w : World) (hl : l.length = m) (hm : m ≤ 1000) (hN : N ≤ 1000) (hin : InN N l) (hs : s < N) (hf : FlowV N l gs s t v) (hM : ∀ a ∈ l, 0 ≤ a.m ∧ a.m ≤ 1048576) (hr : Els w w.heap.size 4 Arc.cells A l) (hg : Els w w.heap.size 1 icell G gs) :
    Calls Try.prog 15 #[.agg #[.int .i64 N, .slice A m c], .slice G m cg, .int .i64 s, .int .i64 t] w fun e w' => e = .returned (.tuple #[.int .i64 v, .bool true]) ∧ Below w.heap.size w w' := by
  have hi1 : (Try.prog.info? 2).map (fun i => (i.zero, i.size, i.bytes)) = some (some (.int .i64 0), 1, 8) := rfl
  obtain ⟨i1, a1, b1, c1, d1⟩ := info_parts hi1
  have hm1 : ∀ W : World, (Instr.makeSlice 40 (.int .i64 N) (.int .i64 N)).run Try.prog W = .ok (.slice (some ⟨W.heap.size, 0, none⟩) N N) (W.alloc (.cells (madeCells #[.int .i64 0] N) 2)) := fun W => by
    have := run_make (P := Try.prog) W 40 2 i1 (.int .i64 0) (by kernel_rfl) a1 b1 .i64 .i64 N N (by omega) (Int.le_refl _) (by rw [d1]; omega) (by omega)
    rw [c1, Nat.mul_one, show (Value.int .i64 0).cells = #[Value.int .i64 0] from rfl] at this
    simpa using this
  clear hi1 a1 b1 c1 d1
  obtain ⟨S, hS⟩ : ∃ S, S = w.heap.size := ⟨_, rfl⟩
  have HR := Lib.hid hr
  have HG := Lib.hid hg
  rw [← hS] at HR HG
  have hk0 := Blk.new w 39 #[.int .i64 N, .slice A m c]
  rw [← hS] at hk0
  have c0 := hk0.cell 0
  have c1 := hk0.cell 1
  obtain ⟨W1, hW1⟩ : ∃ W1, W1 = (w.alloc (.cells #[.int .i64 N, .slice A m c] 39)).alloc (.cells (madeCells #[.int .i64 0] N) 2) := ⟨_, rfl⟩
  have HK := Lib.hid (show Blk W1 S 39 #[.int .i64 N, .slice A m c] by rw [hW1]; exact hk0.alloc _)
  have hk1 := Blk.new (w.alloc (.cells #[.int .i64 N, .slice A m c] 39)) 2 (madeCells #[.int .i64 0] N)
  rw [size_alloc', ← hS, ← hW1] at hk1
  have HO := Lib.hid (goes_made W1 (S + 1) N hk1)
  have HB := Lib.hid (show Below S w W1 by rw [hW1, hS]; exact ((Below.refl _ w).alloc (Nat.le_refl _) _).alloc (by rw [size_alloc']; omega) _)
  have hz : W1.heap.size = S + 2 := by rw [hW1, size_alloc', size_alloc', hS]
  have HS := Lib.hid hS
  have HWW := Lib.hid hW1
  have HF := Lib.hid hf
  have HL := Lib.hid hl
  have HIN := Lib.hid hin
  have HM := Lib.hid hM
  have d0 := HK.out.cell 0
  have d1 := HK.out.cell 1
  have hgl : gs.length = m := by rw [hf.cap.len, hl]
  have HGL := Lib.hid hgl
  clear hr hg hk0 hk1 hf hl hin hM hgl hS hW1
  go_enter Try.func15, Try.ntmps15
  rw [← HS.out]
  go_wp2_with fail
  rw [← HS.out, ← HWW.out]
  clear HWW c0 c1 d0 d1
  go_loopw [26] (fun s26 wr => ∃ k : Nat, k ≤ m ∧ s26 = .int .i64 k ∧ Below S w wr ∧ Blk wr S 39 #[.int .i64 N, .slice A m c] ∧ GoesB wr (S + 1) (netL N (l.take k) (gs.take k))) (fun s26 _ => m - (intOf s26).toNat)
  case atStart => exact ⟨0, Nat.zero_le _, rfl, HB.out, HK.out, by
    have e : netL N (l.take 0) (gs.take 0) = List.replicate N 0 := by
      refine List.ext_getElem (by simp [netL]) fun i h1 h2 => ?_
      simp [netL, netO]
    rw [e]
    exact HO.out⟩
  case round =>
    clear HB HK HO
    rename World => wr
    obtain ⟨k, hk, rfl, hb, hkS, hgo⟩ := hrel
    by_cases hlt : k < m
    · have hkl : k < l.length := by rw [HL.out]; exact hlt
      have hkg : k < gs.length := by rw [HGL.out]; exact hlt
      have hbA : Below S wr (wr.alloc (.cells #[.int .i64 0, .int .i64 0, .int .i64 0, .int .i64 0] 45)) := (Below.refl _ _).alloc (by have := hkS.lt; omega) _
      obtain ⟨ab, ao, rfl, hab, a0, a1, a2, a3⟩ := (HR.out.below hb).at4 hkl
      obtain ⟨gb, go, rfl, hgb, g0⟩ := (HG.out.below hb).at1 hkg
      have hinA := HIN.out (l[k]) (List.getElem_mem _)
      have hca := HF.out.cap.at_ hkl
      rw [getD_at l k hkl, getD_at gs k hkg] at hca
      have hmA := (HM.out (l[k]) (List.getElem_mem _)).2
      obtain ⟨ar, har⟩ : ∃ ar, ar = l[k] := ⟨_, rfl⟩
      obtain ⟨gk, hgk⟩ : ∃ gk, gk = gs[k] := ⟨_, rfl⟩
      rw [← har] at a0 a1 a2 a3 hinA hca hmA
      rw [← hgk] at g0 hca
      obtain ⟨af, at_, am, ae⟩ := ar
      simp only at hinA hca hmA
      obtain ⟨h1, h2, h3, h4, h5⟩ := hinA
      obtain ⟨f, rfl⟩ : ∃ f : Nat, af = f := ⟨af.toNat, by omega⟩
      obtain ⟨u, rfl⟩ : ∃ u : Nat, at_ = u := ⟨at_.toNat, by omega⟩
      have hfN : f < N := by omega
      have huN : u < N := by omega
      have hfu : f ≠ u := by omega
      have hsn : netL N (l.take (k + 1)) (gs.take (k + 1)) = ((netL N (l.take k) (gs.take k)).set f ((netL N (l.take k) (gs.take k)).getD f 0 + gk)).set u ((netL N (l.take k) (gs.take k)).getD u 0 - gk) := by
        rw [List.take_add_one, List.take_add_one, List.getElem?_eq_getElem hkl, List.getElem?_eq_getElem hkg, ← har, ← hgk]
        exact netL_snoc (by rw [List.length_take, List.length_take, HGL.out, HL.out]) hfN huN hfu
      obtain ⟨os, hos⟩ : ∃ os, os = netL N (l.take k) (gs.take k) := ⟨_, rfl⟩
      have hol : os.length = N := by rw [hos, netL_length]
      obtain ⟨q1, hq1⟩ : ∃ q, q = os.getD f 0 := ⟨_, rfl⟩
      obtain ⟨q2, hq2⟩ : ∃ q, q = os.getD u 0 := ⟨_, rfl⟩
      have hB1 : -(1048576 * k) ≤ q1 ∧ q1 ≤ 1048576 * k := by
        rw [hq1, hos, netL_at _ _ hfN]
        exact netO_bound HF.out.cap (fun a ha => (HM.out a ha).2) _ _
      have hB2 : -(1048576 * k) ≤ q2 ∧ q2 ≤ 1048576 * k := by
        rw [hq2, hos, netL_at _ _ huN]
        exact netO_bound HF.out.cap (fun a ha => (HM.out a ha).2) _ _
      rw [← hos] at hgo hsn
      rw [← hq1, ← hq2] at hsn
      have hgf := hgo.at_ (i := f) (by omega)
      rw [← hq1] at hgf
      have hgu : (os.set f (q1 + gk)).getD u 0 = q2 := by
        rw [hq2, List.getD_eq_getElem?_getD, List.getD_eq_getElem?_getD, List.getElem?_set_ne hfu]
      have ff := Blk.frozen hgo f
      have fu := Blk.frozen hgo u
      obtain ⟨V, hV⟩ : ∃ V, V = wr.alloc (.cells #[.int .i64 f, .int .i64 u, .int .i64 am, .int .i64 ae] 45) := ⟨_, rfl⟩
      have hbx := Blk.new wr 45 #[.int .i64 f, .int .i64 u, .int .i64 am, .int .i64 ae]
      obtain ⟨Z, hZ⟩ : ∃ Z, Z = wr.heap.size := ⟨_, rfl⟩
      rw [← hV, ← hZ] at hbx
      have hSw := hkS.lt
      have hgS := Blk.lt hgo
      have hgoV : GoesB V (S + 1) os := by rw [hV]; exact Blk.alloc hgo _
      have hkV : Blk V S 39 #[.int .i64 N, .slice (some ⟨ab, ao, none⟩) m c] := by rw [hV]; exact hkS.alloc _
      have hbV : Below S w V := by rw [hV]; exact hb.alloc (by omega) _
      have g1 : V.cell? ⟨gb, go + k, none⟩ = some (.int .i64 gk) := by rw [hV]; exact (((Below.refl wr.heap.size wr).alloc (Nat.le_refl _) _).cell (by show gb < _; omega)).trans g0
      have hd1 : decide (gk < 0) = false := by simp; omega
      have hd2 : decide (am < gk) = false := by simp; omega
      have hZlt : S + 1 < Z := by rw [hZ]; exact hgS
      have HSN := Lib.hid hsn
      have HGOV := Lib.hid hgoV
      have HKV := Lib.hid hkV
      have HBV := Lib.hid hbV
      have HVV := Lib.hid hV
      have HZZ := Lib.hid hZ
      have HGU := Lib.hid hgu
      have HGF := Lib.hid hgf
      have HOL := Lib.hid hol
      have HBXX := Lib.hid hbx
      have HQ1 := Lib.hid hq1
      have y0 := hbx.cell 0
      have y1 := hbx.cell 1
      have y2 := hbx.cell 2
      clear hsn hgoV hkV hbV hV hZ hgu hgf hol hos har hgk hq1 hq2 hgo hkS hb hbx
      go_wp2_with fail
      rw [← HVV.out, ← HZZ.out]
      go_quiet (fail)
      go_wp2_with fail
      rename Nat => nq
      obtain ⟨X, hX⟩ : ∃ X, X = V.drewN nq := ⟨_, rfl⟩
      have hgX : GoesB X (S + 1) os := by rw [hX]; exact Blk.drewN HGOV.out _
      have hkX := HBXX.out.drewN nq
      have hSX := HKV.out.drewN nq
      have hbX : Below S w X := by rw [hX]; exact below_drewN HBV.out _
      rw [← hX] at hkX hSX
      have y0 := hkX.cell 0
      have z0 : X.cell? ⟨S + 1, f, none⟩ = some (.int .i64 q1) := by
        have := hgX.at_ (i := f) (by have := HOL.out; omega)
        rw [HQ1.out]; exact this
      have z1 : X.cell? ⟨gb, go + k, none⟩ = some (.int .i64 gk) := by rw [hX]; exact g1
      have z2 := Blk.frozen hgX f
      have hw1 : IntKind.i64.wrap (q1 + gk) = q1 + gk := IntWalk.i64_in _ (by omega)
      rw [← hX]
      have HX := Lib.hid hX
      have HGX := Lib.hid hgX
      have HKX := Lib.hid hkX
      have HSX := Lib.hid hSX
      have HBX2 := Lib.hid hbX
      clear hX hgX hkX hSX hbX
      refine region_plain 14 15 (fun w' => w' = X.drew) (by kernel_rfl) rfl ?_
      refine anyC_reads (by kernel_rfl) [0, 1, 2, 3, 4, 5, 6, 7, 8, 9, 10, 11] ?op2 ?oh2 3 _ _ _ (by kernel_rfl) ?ok2
      case oh2 => (simp only [List.filterMap_cons, List.filterMap_nil, List.getElem?_toArray, List.getElem?_cons_zero, List.getElem?_cons_succ]; try rfl)
      repeat (
        refine readC_step (v := ?_) rfl (fun w' hw' => ?_) ?_
        rotate_left
        focus (subst hw'; go_simp; try with_reducible rfl)
        go_simp)
      refine readC_nil ?_
      refine anyC_one (i := 12) (by kernel_rfl) rfl rfl (.inr rfl) ?_
      go_simp
      refine anyC_one (i := 13) (by kernel_rfl) rfl rfl (.inr rfl) ?_
      go_simp
      refine anyC_one (i := 14) (by kernel_rfl) rfl rfl (.inr rfl) ?_
      go_simp
      refine anyC_end (by kernel_rfl) (.inl rfl) ?_
      obtain ⟨Y, hY⟩ : ∃ Y, Y = (X.setCell ⟨S + 1, f, none⟩ (.int .i64 (q1 + gk))).drew := ⟨_, rfl⟩
      have hgY : GoesB Y (S + 1) (os.set f (q1 + gk)) := by rw [hY]; exact Blk.drew (GoesB.put HGX.out f (q1 + gk))
      have hkY : Blk Y Z 45 #[.int .i64 f, .int .i64 u, .int .i64 am, .int .i64 ae] := by rw [hY]; exact (HKX.out.far (p := ⟨S + 1, f, none⟩) (show Z ≠ S + 1 by omega) _).drew
      have hSY : Blk Y S 39 #[.int .i64 N, .slice (some ⟨ab, ao, none⟩) m c] := by rw [hY]; exact (HSX.out.far (p := ⟨S + 1, f, none⟩) (show S ≠ S + 1 by omega) _).drew
      have hbY : Below S w Y := by rw [hY]; exact (HBX2.out.setCell (p := ⟨S + 1, f, none⟩) (show S ≤ S + 1 by omega) _).drew
      have y1 := hkY.cell 1
      have v0 : Y.cell? ⟨S + 1, u, none⟩ = some (.int .i64 q2) := by
        have := hgY.at_ (i := u) (by rw [List.length_set]; have := HOL.out; omega)
        rw [HGU.out] at this; exact this
      have v1 : Y.cell? ⟨gb, go + k, none⟩ = some (.int .i64 gk) := by
        rw [hY]
        exact (((Below.refl S X).setCell (p := ⟨S + 1, f, none⟩) (show S ≤ S + 1 by omega) _).drew.cell (by show gb < _; omega)).trans z1
      have v2 := Blk.frozen hgY u
      have hw2 : IntKind.i64.wrap (q2 - gk) = q2 - gk := IntWalk.i64_in _ (by omega)
      rw [← hY]
      have HGY := Lib.hid hgY
      have HSY := Lib.hid hSY
      have HBY := Lib.hid hbY
      clear hY hgY hkY hSY hbY y0 z0 z1 z2
      go_wp2_with fail
      refine region_plain 14 15 (fun w' => w' = Y.drew) (by kernel_rfl) rfl ?_
      refine anyC_reads (by kernel_rfl) [0, 1, 2, 3, 4, 5, 6, 7, 8, 9, 10, 11] ?op3 ?oh3 3 _ _ _ (by kernel_rfl) ?ok3
      case oh3 => (simp only [List.filterMap_cons, List.filterMap_nil, List.getElem?_toArray, List.getElem?_cons_zero, List.getElem?_cons_succ]; try rfl)
      repeat (
        refine readC_step (v := ?_) rfl (fun w' hw' => ?_) ?_
        rotate_left
        focus (subst hw'; go_simp; try with_reducible rfl)
        go_simp)
      refine readC_nil ?_
      refine anyC_one (i := 12) (by kernel_rfl) rfl rfl (.inr rfl) ?_
      go_simp
      refine anyC_one (i := 13) (by kernel_rfl) rfl rfl (.inr rfl) ?_
      go_simp
      refine anyC_one (i := 14) (by kernel_rfl) rfl rfl (.inr rfl) ?_
      go_simp
      refine anyC_end (by kernel_rfl) (.inl rfl) ?_
      have hgE : GoesB (Y.setCell ⟨S + 1, u, none⟩ (.int .i64 (q2 - gk))).drew (S + 1) ((os.set f (q1 + gk)).set u (q2 - gk)) := Blk.drew (GoesB.put HGY.out u (q2 - gk))
      have hSE := (HSY.out.far (p := ⟨S + 1, u, none⟩) (show S ≠ S + 1 by omega) (.int .i64 (q2 - gk))).drew
      have hbE := (HBY.out.setCell (p := ⟨S + 1, u, none⟩) (show S ≤ S + 1 by omega) (.int .i64 (q2 - gk))).drew
      have HGE := Lib.hid hgE
      have HSE := Lib.hid hSE
      have HBE := Lib.hid hbE
      have hwk : IntKind.i64.wrap ((k : Int) + 1) = (k : Int) + 1 := IntWalk.i64_in _ (by omega)
      clear hgE hSE hbE v0 v1 v2 y1
      go_wp2_with fail
      go_roundw
      case rel => exact ⟨k + 1, by omega, by simp, HBE.out, HSE.out, by rw [HSN.out]; exact HGE.out⟩
      case measure => first | (simp [intOf]; done) | (simp [intOf]; omega)
    · obtain rfl : k = m := by omega
      have e1 : l.take k = l := List.take_of_length_le (by rw [HL.out]; exact Nat.le_refl _)
      have e2 : gs.take k = gs := List.take_of_length_le (by rw [HGL.out]; exact Nat.le_refl _)
      rw [e1, e2] at hgo
      have HGO := Lib.hid hgo
      have HBB := Lib.hid hb
      have HKS := Lib.hid hkS
      have c0 := hkS.cell 0
      clear e1 e2 hgo hb hkS
      go_wp2_with fail
      go_loopw [13] (fun s13 wq => ∃ i : Nat, i ≤ N ∧ s13 = .int .i64 i ∧ wq = wr) (fun s13 _ => N - (intOf s13).toNat)
      case atStart => exact ⟨0, Nat.zero_le _, rfl, rfl⟩
      case round =>
        obtain ⟨i, hi, rfl, rfl⟩ := hrel
        by_cases hlt : i < N
        · have hgi := HGO.out.at_ (i := i) (by rw [netL_length]; exact hlt)
          rw [netL_at _ _ hlt] at hgi
          have hwi : IntKind.i64.wrap ((i : Int) + 1) = (i : Int) + 1 := IntWalk.i64_in _ (by omega)
          by_cases his : i = s
          · have h1 : ((i : Int) != (s : Int)) = false := by simp; omega
            go_wp2_with fail
            (refine ⟨⟨i + 1, by omega, by first | (simp; done) | (simp; omega), trivial⟩, ?_⟩; simp [intOf]; omega)
          · have h1 : ((i : Int) != (s : Int)) = true := by simp; omega
            by_cases hit : i = t
            · have h2 : ((i : Int) != (t : Int)) = false := by simp; omega
              go_wp2_with fail
              (refine ⟨⟨i + 1, by omega, by first | (simp; done) | (simp; omega), trivial⟩, ?_⟩; simp [intOf]; omega)
            · have h2 : ((i : Int) != (t : Int)) = true := by simp; omega
              rw [HF.out.mid i hlt his hit] at hgi
              go_wp2_with fail
              (refine ⟨⟨i + 1, by omega, by first | (simp; done) | (simp; omega), trivial⟩, ?_⟩; simp [intOf]; omega)
        · obtain rfl : i = N := by omega
          have hgs := HGO.out.at_ (i := s) (by rw [netL_length]; exact hs)
          rw [netL_at _ _ hs, HF.out.src] at hgs
          go_wp2_with fail
          refine bodyPost_ret (v := .tuple #[.int .i64 v, .bool true]) (by simp [results, Try.results15, go_sem]) rfl ?_
          exact ⟨rfl, HBB.out⟩
end Go.Proofs.Ytjkfogkpacmdlaa
