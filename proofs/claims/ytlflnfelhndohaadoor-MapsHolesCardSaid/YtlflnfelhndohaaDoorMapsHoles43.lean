/- May a map be: the statement's walk. Conditions: the edges and the rounds read as lists; the table. -/
import Derived.Test.YtlflnfelhndohaaDoorMapsHoles42
import Derived.Test.YtlflnfelhndohaaDoorMapsHoles3
import Derived.Test.YtlflnfelhndohaaDoorMapsHoles5
namespace Go.Proofs.YtlflnfelhndohaaDoor
open Go.RowKit Go.Shelf

set_option maxRecDepth 100000 in
set_option maxHeartbeats 1000000 in
theorem law_MapsChecks (N : Int) (A RA : Option Addr) (n c m rc : Nat) (l : List Ed) (rows : List (Sls Int)) (w : World) (htab : TabOk w) (hl : l.length = n) (hn : n ≤ maxLen) (hc : n ≤ c) (hr : Els w w.heap.size 3 Ed.cells A l) (hm : rows.length = m)
    (hR : Els w w.heap.size 1 (fun s : Sls Int => [s.val]) RA rows) (hrow : ∀ s ∈ rows, Els w w.heap.size 1 icell s.A s.l ∧ s.l.length ≤ 17592186044415 ∧ s.l.length ≤ s.c) :
    Calls Tryd.prog 4 #[.agg #[.int .i64 N, .slice A n c], .slice RA m rc] w fun e w' => e = .returned (.bool true) ∧ Below w.heap.size w w' := by
  have hb0 := (Below.refl w.heap.size w).alloc (Nat.le_refl _) (.cells #[.int .i64 N, .slice A n c] 24)
  have hk0 := Blk.new w 24 #[.int .i64 N, .slice A n c]
  have HP : Hid (∀ v, Below w.heap.size w v → Calls Tryd.prog 12 #[.agg #[.int .i64 N, .slice A n c], .slice RA m rc] v fun e w' => e = .returned (.int .i64 (mapCode N l (rows.map Sls.l))) ∧ Below v.heap.size v w') := Lib.hid fun v hv =>
    maps_Check N A RA n c m rc l rows v (htab.below hv htab.1) hl hn ((hr.below hv).more hv.size) hm ((hR.below hv).more hv.size) (fun s hs => ⟨((hrow s hs).1.below hv).more hv.size, (hrow s hs).2.1⟩)
  have HQ : Hid (∀ v, Below w.heap.size w v → Calls Tryd.prog 13 #[.agg #[.int .i64 N, .slice A n c], .slice RA m rc] v fun e w' => e = .returned (.int .i64 (mapCode N l (rows.map Sls.l))) ∧ Below v.heap.size v w') := Lib.hid fun v hv =>
    ref_MapCheck N A RA n c m rc l rows v hl hn hc ((hr.below hv).more hv.size) hm ((hR.below hv).more hv.size) (fun s hs => ⟨((hrow s hs).1.below hv).more hv.size, (hrow s hs).2⟩)
  obtain ⟨W1, hW1⟩ : ∃ W1, W1 = w.alloc (.cells #[.int .i64 N, .slice A n c] 24) := ⟨_, rfl⟩
  rw [← hW1] at hb0 hk0
  have HB1 := Lib.hid hb0
  have HK1 := Lib.hid hk0
  have HW1 := Lib.hid hW1
  obtain ⟨G, hG⟩ : ∃ G, G = w.heap.size := ⟨_, rfl⟩
  have HG := Lib.hid hG
  have hbb : (decide (mapCode N l (rows.map Sls.l) = mapCode N l (rows.map Sls.l))) = true := by simp
  obtain ⟨x, hx⟩ : ∃ x, x = mapCode N l (rows.map Sls.l) := ⟨_, rfl⟩
  rw [← hx] at HP HQ
  have hxx : (x == x) = true := by simp
  clear hb0 hk0 hW1 hl hr hm hR hrow htab hG hbb hx
  go_enter Tryd.func4, Tryd.ntmps4
  go_wp2_with fail
  rw [← HW1.out, ← HG.out]
  rw [← HG.out] at HB1 HK1 HP HQ
  refine region_plain 8 8 (fun w' => w'.cell? ⟨G, 0, none⟩ = some (.int .i64 N) ∧ w'.cell? ⟨G, 1, none⟩ = some (.slice A n c)) (by kernel_rfl) rfl ?_
  refine anyC_reads (by kernel_rfl) [0, 1, 3, 4] ?opc ?ohc 4 _ _ _ (by kernel_rfl) ?okc
  case ohc => (simp only [List.filterMap_cons, List.filterMap_nil, List.getElem?_toArray, List.getElem?_cons_zero, List.getElem?_cons_succ]; try rfl)
  repeat (
    refine readC_step (v := ?_) rfl (fun w' hw' => ?_) ?_
    rotate_left
    focus (obtain ⟨n1, n2⟩ := hw'; go_simp; try with_reducible rfl)
    go_simp)
  refine readC_nil ?_
  have HC1 : Hid (∀ v, Below G w v → ∀ v', Below v.heap.size v v' → Below G w v') := Lib.hid fun v hv v' hv' => hv.trans (hv'.mono (by have := hv.size; rw [HG.out]; exact this))
  have HC2 : Hid (∀ v, Blk v G 24 #[.int .i64 N, .slice A n c] → v.cell? ⟨G, 0, none⟩ = some (.int .i64 N) ∧ v.cell? ⟨G, 1, none⟩ = some (.slice A n c)) := Lib.hid fun v hv => ⟨hv.cell 0, hv.cell 1⟩
  refine anyC_one (i := 2) (by kernel_rfl) rfl rfl (.inr (HC2.out _ HK1.out.drew)) ?_
  go_simp
  refine (HP.out W1.drew HB1.out.drew).mono ?_
  rintro e v2 ⟨rfl, hb2⟩
  have hk2 := HK1.out.drew.below hb2 HK1.out.lt
  have hb2' := HC1.out _ HB1.out.drew _ hb2
  have HB2 := Lib.hid hb2'
  have HK2 := Lib.hid hk2
  clear hb2 hk2 hb2'
  go_simp
  refine anyC_one (i := 5) (by kernel_rfl) rfl rfl (.inr (HC2.out _ HK2.out)) ?_
  go_simp
  refine (HQ.out v2 HB2.out).mono ?_
  rintro e v3 ⟨rfl, hb3⟩
  have HK3 := Lib.hid (HK2.out.below hb3 HK2.out.lt)
  have HB3 := Lib.hid (HC1.out _ HB2.out _ hb3)
  clear hb3
  go_simp
  refine anyC_one (i := 6) (by kernel_rfl) rfl rfl (.inr (HC2.out _ HK3.out)) ?_
  go_simp
  refine anyC_one (i := 7) (by kernel_rfl) rfl rfl (.inr (HC2.out _ HK3.out)) ?_
  go_simp
  refine anyC_end (by kernel_rfl) (.inr (HC2.out _ HK3.out)) ?_
  go_wp2_with fail
  go_ret
  exact ⟨rfl, by rw [← HG.out]; exact HB3.out⟩
theorem MapsChecks_row (N : Int) (s : Sls (Int × Int × Int)) (t : Sls (Sls Int)) (w : World) (htab : TabOk w) (_hN : OkI N) (h : s.Good w w.heap.size 3 (fun p => [.int .i64 p.1, .int .i64 p.2.1, .int .i64 p.2.2]) (fun p => OkI p.1 ∧ OkI p.2.1 ∧ OkI p.2.2))
    (ht : t.Good w w.heap.size 1 (fun s : Sls Int => [s.val]) (fun s => s.Good w w.heap.size 1 (fun n : Int => [.int .i64 n]) OkI ∧ s.l.length * 8 ≤ reachBytes) ∧ t.l.length * 24 ≤ reachBytes) :
    Calls Tryd.prog 4 #[.agg #[.int .i64 N, s.val], t.val] w fun e w' => e = .returned (.bool true) ∧ Below w.heap.size w w' :=
  law_MapsChecks N s.A t.A s.l.length s.c t.l.length t.c (s.l.map Ed.of) t.l w htab (by simp) h.1 h.2.1 (h.2.2.1.map_ Ed.of fun _ _ => rfl) rfl ht.1.2.2.1
    (fun r hr => ⟨(ht.1.2.2.2 r hr).1.2.2.1, by have := (ht.1.2.2.2 r hr).2; unfold reachBytes at this; omega, (ht.1.2.2.2 r hr).1.2.1⟩)
end Go.Proofs.YtlflnfelhndohaaDoor
