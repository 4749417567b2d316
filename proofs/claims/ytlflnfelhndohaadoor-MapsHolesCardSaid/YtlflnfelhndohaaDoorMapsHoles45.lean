/- The holes of a map: the program's walk. Conditions: the edges and the rounds read as lists; the table. -/
import Derived.Test.YtlflnfelhndohaaDoorMapsHoles26
import Derived.Test.YtlflnfelhndohaaDoorMapsHoles29
import Derived.Test.YtlflnfelhndohaaDoorMapsHoles33
import Derived.Test.YtlflnfelhndohaaDoorMapsHoles37
import Derived.Test.YtlflnfelhndohaaDoorMapsHoles44
namespace Go.Proofs.YtlflnfelhndohaaDoor
open Go.RowKit Go.Shelf

/-- What a map's holes are. -/
def holZ (N n F u : Nat) : Int := (u : Int) - Int.tdiv ((N : Int) - n + F) 2
theorem holZ_twice {N n F u : Nat} (h : (F + N + n) % 2 = 0) : 2 * holZ N n F u = 2 * (u : Int) - N + n - F := by
  unfold holZ
  obtain ⟨k, hk⟩ : ∃ k : Int, (N : Int) - n + F = 2 * k := ⟨((N : Int) - n + F) / 2, by omega⟩
  rw [hk, Int.mul_tdiv_cancel_left _ (by decide)]
  omega
theorem holZ_small {N n F u : Nat} (h : (F + N + n) % 2 = 0) (h1 : N ≤ 10) (h2 : n ≤ 45) (h3 : F ≤ 460) (h4 : u ≤ 10) : -2000 ≤ holZ N n F u ∧ holZ N n F u ≤ 2000 := by
  have := holZ_twice (u := u) h
  omega
theorem map_even {m : Nat} {l : List Ed} {R : List (List Int)} (h : mapCode m l R = 0) : ((facesD m R m).2 + m + l.length) % 2 = 0 := by
  unfold mapCode at h
  split at h
  · rename_i h1; exact absurd h h1
  · rename_i h1
    have h0 : graphCheck m l = 0 := Classical.byContradiction h1
    split at h
    · cases h
    · rename_i h2
      obtain ⟨m', hm, hg⟩ := graph_good h0
      obtain rfl : m = m' := by omega
      have hl : R.length = m := by omega
      split at h
      · cases h
      · rename_i h3
        rw [hl, Int.toNat_natCast] at h3
        exact faces_even hg hl (by simpa using h3)
theorem unl_le (l : List Int) : unl l ≤ l.length := by
  have := List.length_filter_le (newB l) (List.range l.length)
  rwa [List.length_range] at this
set_option maxRecDepth 100000 in
set_option maxHeartbeats 2000000 in
theorem maps_Holes (N : Int) (A RA : Option Addr) (n c m rc : Nat) (l : List Ed) (rows : List (Sls Int)) (w : World) (htab : TabOk w) (hl : l.length = n) (hn : n ≤ maxLen) (hr : Els w w.heap.size 3 Ed.cells A l) (hm : rows.length = m)
    (hR : Els w w.heap.size 1 (fun s : Sls Int => [s.val]) RA rows) (hrow : ∀ s ∈ rows, Els w w.heap.size 1 icell s.A s.l ∧ s.l.length ≤ 17592186044415) :
    Calls Tryd.prog 16 #[.agg #[.int .i64 N, .slice A n c], .slice RA m rc] w fun e w' => ∃ z : Int, e = .returned (.tuple #[.int .i64 z, .int .i64 (mapCode N l (rows.map Sls.l))]) ∧ Below w.heap.size w w' ∧
      (mapCode N l (rows.map Sls.l) ≠ 0 → z = 0) ∧ (mapCode N l (rows.map Sls.l) = 0 → ∃ L : List Int, L.length = m ∧ PartsL l L ∧ z = holZ m n (facesD m (rows.map Sls.l) m).2 (unl L)) := by
  have hb0 := (Below.refl w.heap.size w).alloc (Nat.le_refl _) (.cells #[.int .i64 N, .slice A n c] 24)
  have hB0 := Blk.new w 24 #[.int .i64 N, .slice A n c]
  have HW := Lib.hid (maps_Check N A RA n c m rc l rows _ (htab.below hb0 htab.1) hl hn ((hr.below hb0).more hb0.size) hm ((hR.below hb0).more hb0.size) (fun s hs => ⟨((hrow s hs).1.below hb0).more hb0.size, (hrow s hs).2⟩))
  have HPA : Hid (∀ v, Below w.heap.size w v → Calls Tryd.prog 38 #[.agg #[.int .i64 N, .slice A n c]] v fun e w' => ∃ A' k cap, e = .returned (.tuple #[.slice A' k cap, .int .i64 (graphCheck N l)]) ∧ Below v.heap.size v w' ∧
      (graphCheck N l ≠ 0 → k = 0) ∧ (graphCheck N l = 0 → ∃ (m : Nat) (L : List Int), N = m ∧ k = m ∧ L.length = m ∧ PartsL l L ∧ Els w' w'.heap.size 1 icell A' L)) := Lib.hid fun v hv =>
    graph_Parts N A n c l v hl hn ((hr.below hv).more hv.size) (htab.below hv htab.1)
  have HRR := Lib.hid hR
  have HRW := Lib.hid hrow
  have HM := Lib.hid hm
  have HL := Lib.hid hl
  have HB0 := Lib.hid hb0
  have HK0 := Lib.hid hB0
  have c0 := hB0.cell 0
  have c1 := hB0.cell 1
  clear hr hl hR hrow hm hb0 hB0 htab
  go_enter Tryd.func16, Tryd.ntmps16
  go_wp2_with fail
  refine HW.out.mono ?_
  clear HW
  rintro e v1 ⟨rfl, hb1⟩
  have hk1 := HK0.out.below hb1 HK0.out.lt
  have HB1 := Lib.hid (HB0.out.trans (hb1.mono HB0.out.size))
  clear hb1 c0 c1
  have c0 := hk1.cell 0
  have c1 := hk1.cell 1
  have HK1 := Lib.hid hk1
  clear hk1
  obtain ⟨x, hx⟩ : ∃ x, x = mapCode N l (rows.map Sls.l) := ⟨_, rfl⟩
  by_cases h0 : x = 0
  · have hz : mapCode N l (rows.map Sls.l) = 0 := by rw [← hx]; exact h0
    obtain ⟨N', rfl, hg, hRl, hmg⟩ := map_zero hz
    have hmN : m = N' := by rw [← HM.out, ← hRl, List.length_map]
    subst hmN
    have HPP := Lib.hid (HPA.out v1 HB1.out)
    have HG0 : Hid (graphCheck m l = 0) := Lib.hid (Classical.byContradiction fun h => by rw [map_bad h] at hz; exact h hz)
    have hev := map_even hz
    have hf := (faces_seen hmg m (Nat.le_refl _)).2
    have h10 := hg.n10
    have h45 := hg.m45
    rw [HL.out] at hev h45
    have HF : Hid (∀ v, Below w.heap.size w v → Calls Tryd.prog 37 #[.slice RA m rc] v fun e w' => e = .returned (.int .i64 ((facesD m (rows.map Sls.l) m).2 : Int)) ∧ Below v.heap.size v w') := Lib.hid fun v hv =>
      maps_faces m rc RA rows v hmg ((HRR.out.below hv).more hv.size) (fun s hs => ((HRW.out s hs).1.below hv).more hv.size)
    obtain ⟨F, hF⟩ : ∃ F, F = (facesD m (rows.map Sls.l) m).2 := ⟨_, rfl⟩
    rw [← hF] at hev hf HF
    have HFE := Lib.hid hF
    have HZ0 := Lib.hid hz
    have HEV := Lib.hid hev
    rw [hz]
    have HX := Lib.hid hx
    have HH0 := Lib.hid h0
    clear hz hg hRl hmg hx h0 hev hF HPA
    go_wp2_with fail
    refine HPP.out.mono ?_
    clear HPP
    rintro e v2 ⟨A2, k, cap2, rfl, hb2, _, hgood⟩
    obtain ⟨m', L, hm', hkm, hLl, hpl, he2⟩ := hgood HG0.out
    obtain rfl : m' = m := by omega
    subst hkm
    rw [HG0.out]
    have hk2 := HK1.out.below hb2 HK1.out.lt
    have HB2 := Lib.hid (HB1.out.trans (hb2.mono HB1.out.size))
    have HK2 := Lib.hid hk2
    have hu := unl_le L
    rw [hLl] at hu
    have HPL := Lib.hid hpl
    have HLL := Lib.hid hLl
    have HV := Lib.hid (val_calls k cap2 A2 v2)
    have hV1 : Below v2.heap.size v2 (v2.alloc (.cells #[.slice A2 k cap2] 25)) := (Below.refl _ _).alloc (Nat.le_refl _) _
    have HSO := Lib.hid (Sorted_values k v2.heap.size v2.heap.size cap2 (by omega) A2 L hLl (v2.alloc (.cells #[.slice A2 k cap2] 25)) (Blk.new _ _ _) (he2.below hV1) (Nat.le_refl _))
    have hBV := HB2.out.trans (hV1.mono HB2.out.size)
    have HBV := Lib.hid hBV
    have HKV := Lib.hid (hk2.below hV1 hk2.lt)
    clear c0 c1 hb2 hk2 hgood hLl hpl he2 hV1 hBV
    go_wp2_with fail
    refine HV.out.mono ?_
    clear HV
    rintro e wv ⟨rfl, rfl⟩
    go_wp2_with fail
    refine HSO.out.mono ?_
    clear HSO
    rintro e v3 ⟨A3, cap3, rfl, hb3, ho3⟩
    have hb3' := HBV.out.trans (hb3.mono HBV.out.size)
    have hk3 := HKV.out.below hb3 HKV.out.lt
    have hcl : (Lib.compact (sortI L)).length = unl L := by rw [compact_unl (sortI_sorted L), unl_perm (sortI_perm L)]
    have HCO := Lib.hid (Compact_ints (sortI L) A3 k cap3 _ v3 (by rw [sortI_len]; exact HLL.out) ho3)
    rw [hcl] at HCO
    have HO3 := Lib.hid ho3
    have HB3 := Lib.hid hb3'
    have HK3 := Lib.hid hk3
    obtain ⟨u, hu'⟩ : ∃ u, u = unl L := ⟨_, rfl⟩
    rw [← hu'] at HCO hu
    have HU := Lib.hid hu'
    clear hb3 hb3' hk3 hcl ho3 hu'
    go_wp2_with fail
    refine HCO.out.mono ?_
    clear HCO
    rintro e v4 ⟨A4, cap4, rfl, hg4⟩
    have hb4 : Below w.heap.size w v4 := HB3.out.grown hg4 HB3.out.size (fun q hq => by
      have h1 := (HO3.out.lt q hq).1
      have h2 := HBV.out.size
      omega)
    have hk4 : Blk v4 w.heap.size 24 #[.int .i64 k, .slice A n c] := HK3.out.grown hg4 (by
      intro e
      have h1 := (HO3.out.lt _ e.symm).1
      have h2 := HBV.out.size
      omega)
    have HB4 := Lib.hid hb4
    have HK4 := Lib.hid hk4
    clear hg4 hb4 hk4
    have w1 : IntKind.i64.wrap ((k : Int) - n) = (k : Int) - n := IntWalk.i64_in _ (by omega)
    have w2 : IntKind.i64.wrap ((k : Int) - n + F) = (k : Int) - n + F := IntWalk.i64_in _ (by omega)
    have hsm := holZ_small (u := u) HEV.out h10 h45 (by omega) (by omega)
    have htw := holZ_twice (u := u) HEV.out
    have w3 : IntKind.i64.wrap (Int.tdiv ((k : Int) - n + F) 2) = Int.tdiv ((k : Int) - n + F) 2 := IntWalk.i64_in _ (by unfold holZ at hsm; omega)
    have w4 : IntKind.i64.wrap ((u : Int) - Int.tdiv ((k : Int) - n + F) 2) = holZ k n F u := by
      show IntKind.i64.wrap (holZ k n F u) = _
      exact IntWalk.i64_in _ (by omega)
    obtain ⟨G, hG⟩ : ∃ G, G = w.heap.size := ⟨_, rfl⟩
    have HG := Lib.hid hG
    rw [← HG.out] at HB4 HK4 HF ⊢
    obtain ⟨z, hz⟩ : ∃ z, z = holZ k n F u := ⟨_, rfl⟩
    rw [← hz] at w4
    have HZ := Lib.hid hz
    clear hz hsm htw hG hf hu
    go_wp2_with fail
    refine region_plain 14 14 (fun w' => w'.cell? ⟨G, 0, none⟩ = some (.int .i64 k) ∧ w'.cell? ⟨G, 1, none⟩ = some (.slice A n c)) (by kernel_rfl) rfl ?_
    refine anyC_reads (by kernel_rfl) [0, 1, 2, 3, 4, 5, 6, 7] ?opc ?ohc 6 _ _ _ (by kernel_rfl) ?okc
    case ohc => (simp only [List.filterMap_cons, List.filterMap_nil, List.getElem?_toArray, List.getElem?_cons_zero, List.getElem?_cons_succ]; try rfl)
    repeat (
      refine readC_step (v := ?_) rfl (fun w' hw' => ?_) ?_
      rotate_left
      focus (obtain ⟨n1, n2⟩ := hw'; go_simp; try with_reducible rfl)
      go_simp)
    refine readC_nil ?_
    have HC2 : Hid (∀ v, Blk v G 24 #[.int .i64 k, .slice A n c] → v.cell? ⟨G, 0, none⟩ = some (.int .i64 k) ∧ v.cell? ⟨G, 1, none⟩ = some (.slice A n c)) := Lib.hid fun v hv => ⟨hv.cell 0, hv.cell 1⟩
    refine anyC_one (i := 8) (by kernel_rfl) rfl rfl (.inr (HC2.out _ HK4.out.drew)) ?_
    go_simp
    refine (HF.out v4.drew HB4.out.drew).mono ?_
    rintro e v5 ⟨rfl, hb5⟩
    have hk5 := HK4.out.drew.below hb5 HK4.out.lt
    have HK5 := Lib.hid hk5
    have HB5 := Lib.hid (HB4.out.drew.trans (hb5.mono (by have := HB4.out.size; rw [HG.out]; exact this)))
    clear hb5 hk5
    go_simp
    refine anyC_one (i := 9) (by kernel_rfl) rfl rfl (.inr (HC2.out _ HK5.out)) ?_
    go_simp
    refine anyC_one (i := 10) (by kernel_rfl) rfl rfl (.inr (HC2.out _ HK5.out)) ?_
    go_simp
    refine anyC_one (i := 11) (by kernel_rfl) rfl rfl (.inr (HC2.out _ HK5.out)) ?_
    go_simp
    refine anyC_one (i := 12) (by kernel_rfl) rfl rfl (.inr (HC2.out _ HK5.out)) ?_
    go_simp
    refine anyC_one (i := 13) (by kernel_rfl) rfl rfl (.inr (HC2.out _ HK5.out)) ?_
    go_simp
    refine anyC_end (by kernel_rfl) (.inr (HC2.out _ HK5.out)) ?_
    go_wp2_with fail
    refine bodyPost_ret (v := .tuple #[.int .i64 z, .int .i64 0]) (by simp [results, Tryd.results16, go_sem]) rfl ?_
    exact ⟨z, by rw [HZ0.out], by rw [← HG.out]; exact HB5.out, fun h => absurd HZ0.out h, fun _ => ⟨L, HLL.out, HPL.out, by rw [HZ.out, HU.out, HFE.out]⟩⟩
  · have h1 : (x != 0) = true := by simpa using h0
    rw [← hx]
    have HX := Lib.hid hx
    have HH := Lib.hid h0
    clear h0 hx
    go_wp2_with fail
    refine bodyPost_ret (v := .tuple #[.int .i64 0, .int .i64 x]) (by simp [results, Tryd.results16, go_sem]) rfl ?_
    exact ⟨0, by rw [← HX.out], HB1.out, fun _ => rfl, fun h => absurd (HX.out.trans h) HH.out⟩
end Go.Proofs.YtlflnfelhndohaaDoor
