/- The holes of a map: the statement's walk. Conditions: the edges and the rounds read as lists; the table. -/
import Derived.Test.YtlflnfelhndohaaDoorMapsHoles45
namespace Go.Proofs.YtlflnfelhndohaaDoor
open Go.RowKit Go.Shelf

set_option maxRecDepth 100000 in
set_option maxHeartbeats 2000000 in
theorem law_MapsHoles (N : Int) (A RA : Option Addr) (n c m rc : Nat) (l : List Ed) (rows : List (Sls Int)) (w : World) (htab : TabOk w) (hl : l.length = n) (hn : n ≤ maxLen) (hc : n ≤ c) (hr : Els w w.heap.size 3 Ed.cells A l) (hm : rows.length = m)
    (hR : Els w w.heap.size 1 (fun s : Sls Int => [s.val]) RA rows) (hrow : ∀ s ∈ rows, Els w w.heap.size 1 icell s.A s.l ∧ s.l.length ≤ 17592186044415 ∧ s.l.length ≤ s.c) :
    Calls Tryd.prog 6 #[.agg #[.int .i64 N, .slice A n c], .slice RA m rc] w fun e w' => e = .returned (.bool true) ∧ Below w.heap.size w w' := by
  have hb0 := (Below.refl w.heap.size w).alloc (Nat.le_refl _) (.cells #[.int .i64 N, .slice A n c] 24)
  have hk0 := Blk.new w 24 #[.int .i64 N, .slice A n c]
  have HP : Hid (∀ v, Below w.heap.size w v → Calls Tryd.prog 16 #[.agg #[.int .i64 N, .slice A n c], .slice RA m rc] v fun e w' => ∃ z : Int, e = .returned (.tuple #[.int .i64 z, .int .i64 (mapCode N l (rows.map Sls.l))]) ∧ Below v.heap.size v w' ∧
      (mapCode N l (rows.map Sls.l) ≠ 0 → z = 0) ∧ (mapCode N l (rows.map Sls.l) = 0 → ∃ L : List Int, L.length = m ∧ PartsL l L ∧ z = holZ m n (facesD m (rows.map Sls.l) m).2 (unl L))) := Lib.hid fun v hv =>
    maps_Holes N A RA n c m rc l rows v (htab.below hv htab.1) hl hn ((hr.below hv).more hv.size) hm ((hR.below hv).more hv.size) (fun s hs => ⟨((hrow s hs).1.below hv).more hv.size, (hrow s hs).2.1⟩)
  have HQ : Hid (∀ v, Below w.heap.size w v → Calls Tryd.prog 13 #[.agg #[.int .i64 N, .slice A n c], .slice RA m rc] v fun e w' => e = .returned (.int .i64 (mapCode N l (rows.map Sls.l))) ∧ Below v.heap.size v w') := Lib.hid fun v hv =>
    ref_MapCheck N A RA n c m rc l rows v hl hn hc ((hr.below hv).more hv.size) hm ((hR.below hv).more hv.size) (fun s hs => ⟨((hrow s hs).1.below hv).more hv.size, (hrow s hs).2⟩)
  have HF : Hid (mapCode N l (rows.map Sls.l) = 0 → N = m ∧ m ≤ 10 ∧ n ≤ 45 ∧ (facesD m (rows.map Sls.l) m).2 ≤ 460 ∧ ((facesD m (rows.map Sls.l) m).2 + m + n) % 2 = 0 ∧
      (∀ v, Below w.heap.size w v → Calls Tryd.prog 15 #[.agg #[.int .i64 N, .slice A n c], .slice RA m rc] v fun e w' => e = .returned (.int .i64 ((facesD m (rows.map Sls.l) m).2 : Int)) ∧ Below v.heap.size v w') ∧
      (∀ v, Below w.heap.size w v → Calls Tryd.prog 18 #[.agg #[.int .i64 N, .slice A n c]] v fun e w' => ∃ A2 c2 L, e = .returned (.slice A2 m c2) ∧ Below v.heap.size v w' ∧ L.length = m ∧ PartsL l L ∧ Els w' w'.heap.size 1 icell A2 L ∧ m ≤ c2)) := Lib.hid fun h0 => by
    obtain ⟨N', rfl, hg, hRl, hmg⟩ := map_zero h0
    have hmN : m = N' := by rw [← hm, ← hRl, List.length_map]
    subst hmN
    have hev := map_even h0
    have hf := (faces_seen hmg m (Nat.le_refl _)).2
    have h10 := hg.n10
    have h45 := hg.m45
    rw [hl] at hev h45
    exact ⟨rfl, h10, h45, by omega, hev, fun v hv => ref_Faces m n c rc A RA rows v hmg ((hR.below hv).more hv.size) (fun s hs => ((hrow s hs).1.below hv).more hv.size),
      fun v hv => ref_PartsC m A n c l v hl hg ((hr.below hv).more hv.size)⟩
  have HC1 : Hid (∀ v, Below w.heap.size w v → ∀ v', Below v.heap.size v v' → Below w.heap.size w v') := Lib.hid fun v hv v' hv' => hv.trans (hv'.mono hv.size)
  obtain ⟨x, hx⟩ : ∃ x, x = mapCode N l (rows.map Sls.l) := ⟨_, rfl⟩
  rw [← hx] at HP HQ HF
  have hxx : (x == x) = true := by simp
  have c0 := hk0.cell 0
  have c1 := hk0.cell 1
  have HB0 := Lib.hid hb0
  have HK0 := Lib.hid hk0
  clear hb0 hk0 hl hr hm hR hrow htab hx
  go_enter Tryd.func6, Tryd.ntmps6
  go_wp2_with fail
  refine (HP.out _ HB0.out).mono ?_
  rintro e v1 ⟨z, rfl, hb1, hzb, hzg⟩
  have HZB := Lib.hid hzb
  have HZG := Lib.hid hzg
  have HB1 := Lib.hid (HC1.out _ HB0.out _ hb1)
  have hk1 := HK0.out.below hb1 HK0.out.lt
  have HK1 := Lib.hid hk1
  clear c0 c1 hb1 hzb hzg
  have c0 := hk1.cell 0
  have c1 := hk1.cell 1
  clear hk1
  go_wp2_with fail
  refine (HQ.out _ HB1.out).mono ?_
  rintro e v2 ⟨rfl, hb2⟩
  have HB2 := Lib.hid (HC1.out _ HB1.out _ hb2)
  have hk2 := HK1.out.below hb2 HK1.out.lt
  have HK2 := Lib.hid hk2
  clear c0 c1 hb2
  have c0 := hk2.cell 0
  have c1 := hk2.cell 1
  clear hk2
  by_cases h0 : x = 0
  · obtain ⟨rfl, h10, h45, hf, hev, hFA, hPA⟩ := HF.out h0
    obtain ⟨L, hLl, hpl, hz⟩ := HZG.out h0
    have HPA := Lib.hid (hPA v2 HB2.out)
    have HFA := Lib.hid hFA
    have HLL := Lib.hid hLl
    have HPL := Lib.hid hpl
    subst h0
    obtain ⟨F, hF⟩ : ∃ F, F = (facesD m (rows.map Sls.l) m).2 := ⟨_, rfl⟩
    rw [← hF] at hf hev hz HFA
    have hu := unl_le L
    rw [hLl] at hu
    have hsm := holZ_small (u := unl L) hev h10 h45 hf (by omega)
    have htw := holZ_twice (u := unl L) hev
    have HUL : Hid (unl L ≤ 10) := Lib.hid (by omega)
    rw [← hz] at hsm htw
    clear hFA hPA hLl hpl hz hF hev hu
    have HTW := Lib.hid htw
    clear htw
    go_wp2_with fail
    refine HPA.out.mono ?_
    clear HPA
    rintro e v3 ⟨A3, c3, L3, rfl, hb3, hL3, hpl3, hels3, hcap3⟩
    obtain rfl := hpl3.same HPL.out (by rw [hL3, HLL.out])
    have HUN := Lib.hid (ref_Unlike A3 m c3 L3 v3 hL3 (by unfold maxLen; omega) hcap3 hels3)
    have HB3 := Lib.hid (HC1.out _ HB2.out _ hb3)
    have hk3 := HK2.out.below hb3 HK2.out.lt
    have HK3 := Lib.hid hk3
    clear c0 c1 hb3 hL3 hpl3 hels3 hcap3
    obtain ⟨u, hu'⟩ : ∃ u, u = unl L3 := ⟨_, rfl⟩
    have hu10 := HUL.out
    have htw := HTW.out
    rw [← hu'] at HUN hu10 htw
    have HTW2 := Lib.hid htw
    clear hu' hk3 htw
    go_wp2_with fail
    refine HUN.out.mono ?_
    clear HUN
    rintro e v4 ⟨rfl, hb4⟩
    have hk4 := HK3.out.below hb4 HK3.out.lt
    have HB4 := Lib.hid (HC1.out _ HB3.out _ hb4)
    have HK4 := Lib.hid hk4
    clear hb4 hk4
    have w1 : IntKind.i64.wrap (2 * z) = 2 * z := IntWalk.i64_in _ (by omega)
    have w2 : IntKind.i64.wrap (2 * (u : Int)) = 2 * (u : Int) := IntWalk.i64_in _ (by omega)
    have w3 : IntKind.i64.wrap (2 * (u : Int) - m) = 2 * (u : Int) - m := IntWalk.i64_in _ (by omega)
    have w4 : IntKind.i64.wrap (2 * (u : Int) - m + n) = 2 * (u : Int) - m + n := IntWalk.i64_in _ (by omega)
    have w5 : IntKind.i64.wrap (2 * (u : Int) - m + n - F) = 2 * z := by rw [HTW2.out]; exact IntWalk.i64_in _ (by omega)
    have w6 : (2 * z == 2 * z) = true := by simp
    obtain ⟨G, hG⟩ : ∃ G, G = w.heap.size := ⟨_, rfl⟩
    have HG := Lib.hid hG
    rw [← HG.out] at HB4 HK4 HFA ⊢
    clear hG hf hu10 hsm
    go_wp2_with fail
    refine region_plain 21 21 (fun w' => w'.cell? ⟨G, 0, none⟩ = some (.int .i64 m) ∧ w'.cell? ⟨G, 1, none⟩ = some (.slice A n c)) (by kernel_rfl) rfl ?_
    refine anyC_reads (by kernel_rfl) [0, 1, 2, 3, 4, 5, 6, 7, 8, 9, 10, 11, 12, 13, 14, 15] ?opc ?ohc 5 _ _ _ (by kernel_rfl) ?okc
    case ohc => (simp only [List.filterMap_cons, List.filterMap_nil, List.getElem?_toArray, List.getElem?_cons_zero, List.getElem?_cons_succ]; try rfl)
    repeat (
      refine readC_step (v := ?_) rfl (fun w' hw' => ?_) ?_
      rotate_left
      focus (obtain ⟨n1, n2⟩ := hw'; go_simp; try with_reducible rfl)
      go_simp)
    refine readC_nil ?_
    have HC2 : Hid (∀ v, Blk v G 24 #[.int .i64 m, .slice A n c] → v.cell? ⟨G, 0, none⟩ = some (.int .i64 m) ∧ v.cell? ⟨G, 1, none⟩ = some (.slice A n c)) := Lib.hid fun v hv => ⟨hv.cell 0, hv.cell 1⟩
    refine anyC_one (i := 16) (by kernel_rfl) rfl rfl (.inr (HC2.out _ HK4.out.drew)) ?_
    go_simp
    refine (HFA.out v4.drew HB4.out.drew).mono ?_
    rintro e v5 ⟨rfl, hb5⟩
    have hk5 := HK4.out.drew.below hb5 HK4.out.lt
    have HK5 := Lib.hid hk5
    have HB5 := Lib.hid (HB4.out.drew.trans (hb5.mono (by have := HB4.out.size; rw [HG.out]; exact this)))
    clear hb5 hk5
    go_simp
    refine anyC_one (i := 17) (by kernel_rfl) rfl rfl (.inr (HC2.out _ HK5.out)) ?_
    go_simp
    refine anyC_one (i := 18) (by kernel_rfl) rfl rfl (.inr (HC2.out _ HK5.out)) ?_
    go_simp
    refine anyC_one (i := 19) (by kernel_rfl) rfl rfl (.inr (HC2.out _ HK5.out)) ?_
    go_simp
    refine anyC_one (i := 20) (by kernel_rfl) rfl rfl (.inr (HC2.out _ HK5.out)) ?_
    go_simp
    refine anyC_end (by kernel_rfl) (.inr (HC2.out _ HK5.out)) ?_
    go_wp2_with fail
    go_ret
    exact ⟨rfl, by rw [← HG.out]; exact HB5.out⟩
  · have h1 : (x != 0) = true := by simpa using h0
    have h2 : (x == 0) = false := by simpa using h0
    have hy0 := HZB.out h0
    subst hy0
    clear h0
    go_wp2_with fail
    go_ret
    exact ⟨rfl, HB2.out⟩
theorem MapsHoles_row (N : Int) (s : Sls (Int × Int × Int)) (t : Sls (Sls Int)) (w : World) (htab : TabOk w) (_hN : OkI N) (h : s.Good w w.heap.size 3 (fun p => [.int .i64 p.1, .int .i64 p.2.1, .int .i64 p.2.2]) (fun p => OkI p.1 ∧ OkI p.2.1 ∧ OkI p.2.2))
    (ht : t.Good w w.heap.size 1 (fun s : Sls Int => [s.val]) (fun s => s.Good w w.heap.size 1 (fun n : Int => [.int .i64 n]) OkI ∧ s.l.length * 8 ≤ reachBytes) ∧ t.l.length * 24 ≤ reachBytes) :
    Calls Tryd.prog 6 #[.agg #[.int .i64 N, s.val], t.val] w fun e w' => e = .returned (.bool true) ∧ Below w.heap.size w w' :=
  law_MapsHoles N s.A t.A s.l.length s.c t.l.length t.c (s.l.map Ed.of) t.l w htab (by simp) h.1 h.2.1 (h.2.2.1.map_ Ed.of fun _ _ => rfl) rfl ht.1.2.2.1
    (fun r hr => ⟨(ht.1.2.2.2 r hr).1.2.2.1, by have := (ht.1.2.2.2 r hr).2; unfold reachBytes at this; omega, (ht.1.2.2.2 r hr).1.2.1⟩)
end Go.Proofs.YtlflnfelhndohaaDoor
