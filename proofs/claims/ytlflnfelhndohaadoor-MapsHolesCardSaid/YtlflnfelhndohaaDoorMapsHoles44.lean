/- The faces of a map: the statement's walk. Conditions: the edges and the rounds read as lists; the table. -/
import Derived.Test.YtlflnfelhndohaaDoorMapsHoles41
import Derived.Test.YtlflnfelhndohaaDoorMapsHoles43
namespace Go.Proofs.YtlflnfelhndohaaDoor
open Go.RowKit Go.Shelf

theorem map_zero {N : Int} {l : List Ed} {R : List (List Int)} (h : mapCode N l R = 0) : ∃ m : Nat, N = m ∧ GoodG m l ∧ R.length = m ∧ MapG m R := by
  unfold mapCode at h
  split at h
  · rename_i h1; exact absurd h h1
  · rename_i h1
    have h0 : graphCheck N l = 0 := Classical.byContradiction h1
    split at h
    · cases h
    · rename_i h2
      obtain ⟨m, rfl, hg⟩ := graph_good h0
      have hl : R.length = m := by omega
      split at h
      · cases h
      · rename_i h3
        rw [hl, Int.toNat_natCast] at h3
        exact ⟨m, rfl, hg, hl, map_good hg hl (by simpa using h3)⟩
/-- What the program tells. -/
def facesZ (N : Int) (l : List Ed) (R : List (List Int)) : Int := if mapCode N l R = 0 then ((facesD N.toNat R N.toNat).2 : Int) else 0
set_option maxRecDepth 100000 in
set_option maxHeartbeats 1000000 in
theorem maps_Faces (N : Int) (A RA : Option Addr) (n c m rc : Nat) (l : List Ed) (rows : List (Sls Int)) (w : World) (htab : TabOk w) (hl : l.length = n) (hn : n ≤ maxLen) (hr : Els w w.heap.size 3 Ed.cells A l) (hm : rows.length = m)
    (hR : Els w w.heap.size 1 (fun s : Sls Int => [s.val]) RA rows) (hrow : ∀ s ∈ rows, Els w w.heap.size 1 icell s.A s.l ∧ s.l.length ≤ 17592186044415) :
    Calls Tryd.prog 14 #[.agg #[.int .i64 N, .slice A n c], .slice RA m rc] w fun e w' => e = .returned (.tuple #[.int .i64 (facesZ N l (rows.map Sls.l)), .int .i64 (mapCode N l (rows.map Sls.l))]) ∧ Below w.heap.size w w' := by
  have hb0 := (Below.refl w.heap.size w).alloc (Nat.le_refl _) (.cells #[.int .i64 N, .slice A n c] 24)
  have hB0 := Blk.new w 24 #[.int .i64 N, .slice A n c]
  have HW := Lib.hid (maps_Check N A RA n c m rc l rows _ (htab.below hb0 htab.1) hl hn ((hr.below hb0).more hb0.size) hm ((hR.below hb0).more hb0.size) (fun s hs => ⟨((hrow s hs).1.below hb0).more hb0.size, (hrow s hs).2⟩))
  have HRR := Lib.hid hR
  have HRW := Lib.hid hrow
  have HM := Lib.hid hm
  have HB0 := Lib.hid hb0
  have c0 := hB0.cell 0
  have c1 := hB0.cell 1
  clear hr hl hR hrow hm hb0 hB0
  go_enter Tryd.func14, Tryd.ntmps14
  go_wp2_with fail
  refine HW.out.mono ?_
  clear HW
  rintro e v1 ⟨rfl, hb1⟩
  have HB1 := Lib.hid (HB0.out.trans (hb1.mono HB0.out.size))
  clear hb1 c0 c1
  obtain ⟨x, hx⟩ : ∃ x, x = mapCode N l (rows.map Sls.l) := ⟨_, rfl⟩
  by_cases h0 : x = 0
  · have hz : mapCode N l (rows.map Sls.l) = 0 := by rw [← hx]; exact h0
    obtain ⟨N', rfl, hg, hRl, hmg⟩ := map_zero hz
    have hmN : m = N' := by rw [← HM.out, ← hRl, List.length_map]
    subst hmN
    have hv1 := HB1.out
    have HF := Lib.hid (maps_faces m rc RA rows v1 hmg ((HRR.out.below hv1).more hv1.size) (fun s hs => ((HRW.out s hs).1.below hv1).more hv1.size))
    have HZ : Hid (facesZ m l (rows.map Sls.l) = ((facesD m (rows.map Sls.l) m).2 : Int)) := Lib.hid (by unfold facesZ; rw [if_pos hz, Int.toNat_natCast])
    have HZ0 := Lib.hid hz
    rw [hz]
    clear hz hg hRl hmg hv1 h0 hx
    go_wp2_with fail
    refine HF.out.mono ?_
    clear HF
    rintro e v2 ⟨rfl, hb2⟩
    have HB2 := Lib.hid (HB1.out.trans (hb2.mono HB1.out.size))
    clear hb2
    go_wp2_with fail
    refine bodyPost_ret (v := .tuple #[.int .i64 ((facesD m (rows.map Sls.l) m).2 : Nat), .int .i64 0]) (by simp [results, Tryd.results14, go_sem]) rfl ?_
    exact ⟨by rw [HZ.out, HZ0.out], HB2.out⟩
  · have h1 : (x != 0) = true := by simpa using h0
    have HZ : Hid (facesZ N l (rows.map Sls.l) = 0) := Lib.hid (by unfold facesZ; rw [if_neg (by rw [← hx]; exact h0)])
    rw [← hx]
    have HX := Lib.hid hx
    clear h0 hx
    go_wp2_with fail
    refine bodyPost_ret (v := .tuple #[.int .i64 0, .int .i64 x]) (by simp [results, Tryd.results14, go_sem]) rfl ?_
    exact ⟨by rw [HZ.out, ← HX.out], HB1.out⟩
set_option maxRecDepth 100000 in
set_option maxHeartbeats 1000000 in
theorem law_MapsFaces (N : Int) (A RA : Option Addr) (n c m rc : Nat) (l : List Ed) (rows : List (Sls Int)) (w : World) (htab : TabOk w) (hl : l.length = n) (hn : n ≤ maxLen) (hc : n ≤ c) (hr : Els w w.heap.size 3 Ed.cells A l) (hm : rows.length = m)
    (hR : Els w w.heap.size 1 (fun s : Sls Int => [s.val]) RA rows) (hrow : ∀ s ∈ rows, Els w w.heap.size 1 icell s.A s.l ∧ s.l.length ≤ 17592186044415 ∧ s.l.length ≤ s.c) :
    Calls Tryd.prog 5 #[.agg #[.int .i64 N, .slice A n c], .slice RA m rc] w fun e w' => e = .returned (.bool true) ∧ Below w.heap.size w w' := by
  have hb0 := (Below.refl w.heap.size w).alloc (Nat.le_refl _) (.cells #[.int .i64 N, .slice A n c] 24)
  have hk0 := Blk.new w 24 #[.int .i64 N, .slice A n c]
  have HP : Hid (∀ v, Below w.heap.size w v → Calls Tryd.prog 14 #[.agg #[.int .i64 N, .slice A n c], .slice RA m rc] v fun e w' => e = .returned (.tuple #[.int .i64 (facesZ N l (rows.map Sls.l)), .int .i64 (mapCode N l (rows.map Sls.l))]) ∧ Below v.heap.size v w') := Lib.hid fun v hv =>
    maps_Faces N A RA n c m rc l rows v (htab.below hv htab.1) hl hn ((hr.below hv).more hv.size) hm ((hR.below hv).more hv.size) (fun s hs => ⟨((hrow s hs).1.below hv).more hv.size, (hrow s hs).2.1⟩)
  have HQ : Hid (∀ v, Below w.heap.size w v → Calls Tryd.prog 13 #[.agg #[.int .i64 N, .slice A n c], .slice RA m rc] v fun e w' => e = .returned (.int .i64 (mapCode N l (rows.map Sls.l))) ∧ Below v.heap.size v w') := Lib.hid fun v hv =>
    ref_MapCheck N A RA n c m rc l rows v hl hn hc ((hr.below hv).more hv.size) hm ((hR.below hv).more hv.size) (fun s hs => ⟨((hrow s hs).1.below hv).more hv.size, (hrow s hs).2⟩)
  have HF : Hid (mapCode N l (rows.map Sls.l) = 0 → ∀ v, Below w.heap.size w v → Calls Tryd.prog 15 #[.agg #[.int .i64 N, .slice A n c], .slice RA m rc] v fun e w' => e = .returned (.int .i64 (facesZ N l (rows.map Sls.l))) ∧ Below v.heap.size v w') := Lib.hid fun h0 v hv => by
    obtain ⟨N', rfl, hg, hRl, hmg⟩ := map_zero h0
    have hmN : m = N' := by rw [← hm, ← hRl, List.length_map]
    subst hmN
    have := ref_Faces m n c rc A RA rows v hmg ((hR.below hv).more hv.size) (fun s hs => ((hrow s hs).1.below hv).more hv.size)
    rw [show facesZ m l (rows.map Sls.l) = ((facesD m (rows.map Sls.l) m).2 : Int) by unfold facesZ; rw [if_pos h0, Int.toNat_natCast]]
    exact this
  have HC1 : Hid (∀ v, Below w.heap.size w v → ∀ v', Below v.heap.size v v' → Below w.heap.size w v') := Lib.hid fun v hv v' hv' => hv.trans (hv'.mono hv.size)
  have HZ : Hid (mapCode N l (rows.map Sls.l) ≠ 0 → facesZ N l (rows.map Sls.l) = 0) := Lib.hid fun h => by unfold facesZ; rw [if_neg h]
  obtain ⟨x, hx⟩ : ∃ x, x = mapCode N l (rows.map Sls.l) := ⟨_, rfl⟩
  obtain ⟨y, hy⟩ : ∃ y, y = facesZ N l (rows.map Sls.l) := ⟨_, rfl⟩
  rw [← hx, ← hy] at HP HF HZ
  rw [← hx] at HQ
  have hxx : (x == x) = true := by simp
  have hyy : (y == y) = true := by simp
  have c0 := hk0.cell 0
  have c1 := hk0.cell 1
  have HB0 := Lib.hid hb0
  have HK0 := Lib.hid hk0
  clear hb0 hk0 hl hr hm hR hrow htab hx hy
  go_enter Tryd.func5, Tryd.ntmps5
  go_wp2_with fail
  refine (HP.out _ HB0.out).mono ?_
  rintro e v1 ⟨rfl, hb1⟩
  have HB1 := Lib.hid (HC1.out _ HB0.out _ hb1)
  have hk1 := HK0.out.below hb1 HK0.out.lt
  have HK1 := Lib.hid hk1
  clear c0 c1 hb1
  have c0 := hk1.cell 0
  have c1 := hk1.cell 1
  clear hk1
  go_wp2_with fail
  refine (HQ.out _ HB1.out).mono ?_
  rintro e v2 ⟨rfl, hb2⟩
  have HB2 := Lib.hid (HC1.out _ HB1.out _ hb2)
  have hk2 := HK1.out.below hb2 HK1.out.lt
  clear c0 c1 hb2
  have c0 := hk2.cell 0
  have c1 := hk2.cell 1
  clear hk2
  by_cases h0 : x = 0
  · have HFF := Lib.hid (HF.out h0 v2 HB2.out)
    subst h0
    go_wp2_with fail
    refine HFF.out.mono ?_
    rintro e v3 ⟨rfl, hb3⟩
    have HB3 := Lib.hid (HC1.out _ HB2.out _ hb3)
    clear hb3
    go_wp2_with fail
    go_ret
    exact ⟨rfl, HB3.out⟩
  · have h1 : (x != 0) = true := by simpa using h0
    have h2 : (x == 0) = false := by simpa using h0
    have hy0 := HZ.out h0
    subst hy0
    clear h0
    go_wp2_with fail
    go_ret
    exact ⟨rfl, HB2.out⟩
theorem MapsFaces_row (N : Int) (s : Sls (Int × Int × Int)) (t : Sls (Sls Int)) (w : World) (htab : TabOk w) (_hN : OkI N) (h : s.Good w w.heap.size 3 (fun p => [.int .i64 p.1, .int .i64 p.2.1, .int .i64 p.2.2]) (fun p => OkI p.1 ∧ OkI p.2.1 ∧ OkI p.2.2))
    (ht : t.Good w w.heap.size 1 (fun s : Sls Int => [s.val]) (fun s => s.Good w w.heap.size 1 (fun n : Int => [.int .i64 n]) OkI ∧ s.l.length * 8 ≤ reachBytes) ∧ t.l.length * 24 ≤ reachBytes) :
    Calls Tryd.prog 5 #[.agg #[.int .i64 N, s.val], t.val] w fun e w' => e = .returned (.bool true) ∧ Below w.heap.size w w' :=
  law_MapsFaces N s.A t.A s.l.length s.c t.l.length t.c (s.l.map Ed.of) t.l w htab (by simp) h.1 h.2.1 (h.2.2.1.map_ Ed.of fun _ _ => rfl) rfl ht.1.2.2.1
    (fun r hr => ⟨(ht.1.2.2.2 r hr).1.2.2.1, by have := (ht.1.2.2.2 r hr).2; unfold reachBytes at this; omega, (ht.1.2.2.2 r hr).1.2.1⟩)
end Go.Proofs.YtlflnfelhndohaaDoor
