/- slices.Index of whole numbers. Conditions: the slice reads as a list. -/
import Derived.Test.YtlflnfelhndohaaDoorMapsHoles11
import Derived.Test.YtlflnfelhndohaaDoorMapsHoles4
import Derived.Laws.EntriesVeiled
import Derived.Test.YtlflnfelhndohaaDoorMapsHoles27
import Derived.Test.YtlflnfelhndohaaDoorMapsHoles25
import Derived.Test.YtlflnfelhndohaaDoorMapsHoles38
import Derived.Test.YtlflnfelhndohaaDoorMapsHoles8
namespace Go.Proofs.YtlflnfelhndohaaDoor
open Go.RowKit

set_option maxRecDepth 100000 in
theorem Index_ints (x : Int) (A : Option Addr) (n c : Nat) (l : List Int) (B : Nat) (w : World) (hl : l.length = n) (hn : n ≤ maxLen) (hr : Els w B 1 icell A l) :
    Calls Tryd.prog 55 #[.slice A n c, .int .i64 x] w fun e w' => e = .returned (.int .i64 (idxF (fun y => x == y) l)) ∧ w = w' := by
  unfold maxLen at hn
  have HL := Lib.hid hl
  clear hl
  go_enter Tryd.func55, Tryd.ntmps55
  go_wp2_with fail
  go_loop [8] (fun i => ∃ k : Nat, k ≤ n ∧ i = .int .i64 k ∧ (l.take k).any (fun y => x == y) = false) (fun i => n - (intOf i).toNat)
  case atStart => exact ⟨0, by omega, rfl, rfl⟩
  case round =>
    obtain ⟨k, hk, rfl, hno⟩ := hrel
    have HK := Lib.hid hno
    clear hno
    by_cases hlt : k < n
    · have hkl : k < l.length := by rw [HL.out]; exact hlt
      obtain ⟨b, off, rfl, hbb, g0⟩ := hr.at1 hkl
      obtain ⟨y, hy⟩ : ∃ y, y = l[k] := ⟨_, rfl⟩
      rw [← hy] at g0
      have HY := Lib.hid hy
      clear hy
      rcases hxy : (x == y) with _ | _
      · go_wp2_with fail
        go_round
        case rel => exact ⟨k + 1, by omega, by go_num, by rw [any_take_succ _ _ _ hkl, HK.out, ← HY.out, hxy]; rfl⟩
        case measure => simp [intOf]; omega
      · go_wp2_with fail
        go_ret
        exact ⟨ret_i64 (idxF_at hkl HK.out (by rw [← HY.out]; exact hxy)).symm, rfl⟩
    · go_wp2_with fail
      go_ret
      exact ⟨ret_i64 (idxF_none (any_take_all (by rw [HL.out]; omega) HK.out)).symm, rfl⟩
end Go.Proofs.YtlflnfelhndohaaDoor

/- The faces of a map: the program's next side. Conditions: the map may be; its rounds read as lists. -/
namespace Go.Proofs.YtlflnfelhndohaaDoor
open Go.RowKit Go.Shelf

def dartV (d : Dart) : Value := .agg #[.int .i64 d.1, .int .i64 d.2]
theorem rowI_at {rows : List (Sls Int)} {a : Int} (h : a.toNat < rows.length) : rowI (rows.map Sls.l) a = rows[a.toNat].l := by
  unfold rowI
  rw [getD_at _ _ (by rw [List.length_map]; exact h), List.getElem_map]
set_option maxRecDepth 100000 in
set_option maxHeartbeats 1000000 in
theorem maps_next (N rc : Nat) (RA : Option Addr) (rows : List (Sls Int)) (d : Dart) (w : World) (hg : MapG N (rows.map Sls.l)) (hd : Good2 N (rows.map Sls.l) d)
    (hR : Els w w.heap.size 1 (fun s : Sls Int => [s.val]) RA rows) (hrow : ∀ s ∈ rows, Els w w.heap.size 1 icell s.A s.l) :
    Calls Tryd.prog 51 #[.slice RA N rc, dartV d] w fun e w' => e = .returned (dartV (nextD (rows.map Sls.l) d)) ∧ Below w.heap.size w w' := by
  obtain ⟨a, b⟩ := d
  have hng := good2_in hg hd
  have hal := hg.ok a b hd.1 hd.2.1 hd.2.2
  obtain ⟨q, hq, hq1, hq2, _⟩ := idxF_mem hal.2.2
  have hlen := hg.len
  rw [List.length_map] at hlen
  have hbl : b.toNat < rows.length := by have := hal.2.1; have := hal.1; omega
  have hrb := rowI_at (a := b) hbl
  have hsz := hg.sz b
  obtain ⟨bb, rfl⟩ := Int.eq_ofNat_of_zero_le hal.1
  rw [Int.toNat_natCast] at hbl
  have hb0 := (Below.refl w.heap.size w).alloc (Nat.le_refl _) (.cells #[.int .i64 a, .int .i64 bb] 79)
  have hb1 := hb0.alloc hb0.size (.cells #[.int .i64 0, .int .i64 0] 79)
  have hk0 := (Blk.new w 79 #[.int .i64 a, .int .i64 bb]).alloc (.cells #[.int .i64 0, .int .i64 0] 79)
  have hk1 := Blk.new (w.alloc (.cells #[.int .i64 a, .int .i64 bb] 79)) 79 #[.int .i64 0, .int .i64 0]
  rw [size_alloc'] at hk1
  obtain ⟨br, orr, rfl, _, r0⟩ := hR.at1 (f := fun s : Sls Int => s.val) hbl
  have hel := (hrow rows[bb] (List.getElem_mem hbl)).below hb1
  have hnx : nextD (rows.map Sls.l) (a, (bb : Int)) = ((bb : Int), rows[bb].l.getD ((q + 1) % rows[bb].l.length) 0) := by
    unfold nextD
    simp only [hrb, Int.toNat_natCast]
    rw [hrb] at hq1
    simp only [Int.toNat_natCast] at hq1
    rw [hq1]
    congr 2
  rw [hrb] at hq hsz hq1
  simp only [Int.toNat_natCast] at hq hsz hq1
  obtain ⟨⟨SA, sc, sl⟩, hs⟩ : ∃ s, s = rows[bb] := ⟨_, rfl⟩
  rw [← hs] at hq hsz hq1 r0 hel hnx
  simp only [Sls.val] at r0 hel hq hsz hq1 hnx
  obtain ⟨n, hn⟩ : ∃ n, n = sl.length := ⟨_, rfl⟩
  rw [← hn] at hq hsz r0 hnx
  obtain ⟨k1, hk1e⟩ : ∃ k1, k1 = (q + 1) % n := ⟨_, rfl⟩
  rw [← hk1e] at hnx
  have hk1n : k1 < n := by rw [hk1e]; exact Nat.mod_lt _ (by omega)
  have hkl : k1 < sl.length := by omega
  have hr1 : ((q : Int) + 1).tmod (n : Int) = (k1 : Int) := by
    rw [Int.tmod_eq_emod_of_nonneg (by omega), hk1e, Int.natCast_emod]
    rfl
  have hr2 : ((q : Int) + 1) % (n : Int) = (k1 : Int) := by rw [hk1e, Int.natCast_emod]; rfl
  obtain ⟨W1, hW1⟩ : ∃ W1, W1 = (w.alloc (.cells #[.int .i64 a, .int .i64 bb] 79)).alloc (.cells #[.int .i64 0, .int .i64 0] 79) := ⟨_, rfl⟩
  rw [← hW1] at hb1 hk0 hk1 hel
  obtain ⟨b2, o2, hSA, _, x0⟩ := hel.at1 (f := fun x : Int => .int .i64 x) hkl
  obtain ⟨x, hx⟩ : ∃ x, x = sl[k1] := ⟨_, rfl⟩
  rw [← hx] at x0
  rw [getD_at sl k1 hkl 0, ← hx] at hnx
  have HIX := Lib.hid (fun v (hv : Els v w.heap.size 1 icell SA sl) => Index_ints a SA n sc sl w.heap.size v hn.symm (by unfold maxLen; omega) hv)
  have hqe : idxF (fun y => a == y) sl = (q : Int) := hq1
  rw [hqe] at HIX
  have HNX := Lib.hid hnx
  have HW1 := Lib.hid hW1
  have HB1 := Lib.hid hb1
  have HEL := Lib.hid hel
  have HK0 := Lib.hid hk0
  have HK1 := Lib.hid hk1
  have c0 := hk0.cell 0
  have c1 := hk0.cell 1
  have hbN : (bb : Int) < (N : Int) := hal.2.1
  have hq1i : IntKind.i64.wrap ((q : Int) + 1) = (q : Int) + 1 := IntWalk.i64_in _ (by omega)
  have hwk1 : IntKind.i64.wrap (k1 : Int) = (k1 : Int) := IntWalk.i64_in _ (by omega)
  have hn0 : ¬ (n : Int) = 0 := by omega
  have hn0n : ¬ n = 0 := by omega
  have hn0b : ((n : Int) == 0) = false := by simp; omega
  have hk1i : (k1 : Int) < (n : Int) := by omega
  subst hSA
  rw [HNX.out]
  clear hng hal hq hq1 hq2 hlen hbl hrb hsz hb0 hb1 hk0 hk1 hR hel hnx hs hn hk1e hkl hx hqe hrow hg hd hW1
  show Calls Tryd.prog 51 #[.slice (some ⟨br, orr, none⟩) N rc, .agg #[.int .i64 a, .int .i64 bb]] w _
  go_enter Tryd.func51, Tryd.ntmps51
  go_wp2_with (fail)
  rw [← HW1.out]
  clear r0
  obtain ⟨P, hP⟩ : ∃ P, P = w.heap.size := ⟨_, rfl⟩
  have HP := Lib.hid hP
  rw [← hP] at HK0 HK1 c0 c1 ⊢
  clear hP
  have HC : Hid (∀ v, Blk v P 79 #[.int .i64 a, .int .i64 bb] → v.cell? ⟨P, 0, none⟩ = some (.int .i64 a) ∧ v.cell? ⟨P, 1, none⟩ = some (.int .i64 bb)) := Lib.hid fun v hv => ⟨hv.cell 0, hv.cell 1⟩
  have f0 := HK1.out.frozen 0
  have f1 := HK1.out.frozen 1
  have d0 := HK1.out.cell 0
  have d1 := HK1.out.cell 1
  refine region_plain 15 15 (fun w' => w'.cell? ⟨P, 0, none⟩ = some (.int .i64 a) ∧ w'.cell? ⟨P, 1, none⟩ = some (.int .i64 bb)) (by kernel_rfl) rfl ?_
  refine anyC_reads (by kernel_rfl) [0, 1, 2, 3, 4, 5, 8, 9] ?opc ?ohc 7 _ _ _ (by kernel_rfl) ?okc
  case ohc => (simp only [List.filterMap_cons, List.filterMap_nil, List.getElem?_toArray, List.getElem?_cons_zero, List.getElem?_cons_succ]; try rfl)
  repeat (
    refine readC_step (v := ?_) rfl (fun w' hw' => ?_) ?_
    rotate_left
    focus (obtain ⟨n1, n2⟩ := hw'; go_simp; try with_reducible rfl)
    go_simp)
  refine readC_nil ?_
  refine anyC_one (i := 6) (by kernel_rfl) rfl rfl (.inr (HC.out _ HK0.out.drew)) ?_
  go_simp
  refine (HIX.out W1.drew HEL.out.drew).mono ?_
  rintro e w' ⟨rfl, rfl⟩
  go_simp
  refine anyC_one (i := 7) (by kernel_rfl) rfl rfl (.inr (HC.out _ HK0.out.drew)) ?_
  go_simp
  refine anyC_one (i := 10) (by kernel_rfl) rfl rfl (.inr (HC.out _ HK0.out.drew)) ?_
  go_simp
  refine anyC_one (i := 11) (by kernel_rfl) rfl rfl (.inr (HC.out _ HK0.out.drew)) ?_
  go_simp
  refine anyC_one (i := 12) (by kernel_rfl) rfl rfl (.inr (HC.out _ HK0.out.drew)) ?_
  go_simp
  refine anyC_one (i := 13) (by kernel_rfl) rfl rfl (.inr (HC.out _ HK0.out.drew)) ?_
  go_simp
  refine anyC_one (i := 14) (by kernel_rfl) rfl rfl (.inr (HC.out _ HK0.out.drew)) ?_
  go_simp
  refine anyC_end (by kernel_rfl) (.inr ?_) ?_
  · exact HC.out _ ((HK0.out.drew.far (p := ⟨P + 1, 0, none⟩) (show P ≠ P + 1 by omega) _).far (p := ⟨P + 1, 1, none⟩) (show P ≠ P + 1 by omega) _)
  go_wp2_with fail
  obtain ⟨V, hV⟩ : ∃ V, V = (W1.setCell ⟨P + 1, 0, none⟩ (.int .i64 bb)).setCell ⟨P + 1, 1, none⟩ (.int .i64 x) := ⟨_, rfl⟩
  rw [← hV]
  have hkV : Blk V.drew (P + 1) 79 #[.int .i64 bb, .int .i64 x] := by rw [hV]; exact ((HK1.out.put 0 _).put 1 _).drew
  have hbV : Below w.heap.size w V.drew := by
    rw [hV]
    exact ((HB1.out.setCell (p := ⟨P + 1, 0, none⟩) (by show _ ≤ P + 1; rw [HP.out]; omega) _).setCell (p := ⟨P + 1, 1, none⟩) (by show _ ≤ P + 1; rw [HP.out]; omega) _).drew
  have v0 := hkV.cell 0
  have v1 := hkV.cell 1
  refine bodyPost_ret (v := .agg #[.int .i64 bb, .int .i64 x]) (by simp [results, Tryd.results51, go_sem, v0, v1]) rfl ?_
  exact ⟨rfl, hbV⟩
theorem keyL_dart : KeyL Tryd.prog 79 dartV where
  chk b a w := by
    obtain ⟨x, y⟩ := a
    kernel_rfl
  eqv a b w := by
    obtain ⟨x, y⟩ := a
    obtain ⟨x', y'⟩ := b
    unfold dartV
    unfold Op.equal
    rw [show Op.maxDepth = 9999 + 1 from rfl]
    rw [run_equalIn_agg w 9999 79 _ _ (by kernel_rfl) (by kernel_rfl)]
    have hag : ∀ W, (isAgg 3).run Tryd.prog W = .ok false W := fun W => by kernel_rfl
    have he := fun (W : World) (d : Nat) (p q : Int) => run_equalIn_int (P := Tryd.prog) W d 3 .i64 .i64 p q Tryd.underlying3
    by_cases h1 : x = x'
    · by_cases h2 : y = y'
      · subst h1 h2
        simp [Program.fieldsOf, Tryd.underlying79, Op.eqFields, part, hag, he, Result.andThen]
      · subst h1
        simp [Program.fieldsOf, Tryd.underlying79, Op.eqFields, part, hag, he, Result.andThen, h2]
    · simp [Program.fieldsOf, Tryd.underlying79, Op.eqFields, part, hag, he, Result.andThen, h1]
  desc := ⟨_, Tryd.underlying79, .inl fun a b => rfl⟩
  self a := by simp [Instr.sameBits, dartV]
/-- What the map tells. -/
def SeenD (seen : List Dart) (L : List (Dart × Value)) : Prop := ∀ d, getK L d = if d ∈ seen then some (.int .i64 1) else none
theorem SeenD.nil : SeenD [] [] := fun d => by rw [if_neg (by simp)]; rfl
theorem SeenD.put {seen : List Dart} {L : List (Dart × Value)} (h : SeenD seen L) (d : Dart) : SeenD (seen ++ [d]) (putK L d (.int .i64 1)) := fun x => by
  by_cases e : x = d
  · rw [e, getK_put_same, if_pos (by simp)]
  · rw [getK_put_other L _ e, h x]
    by_cases hx : x ∈ seen
    · rw [if_pos hx, if_pos (by simp [hx])]
    · rw [if_neg hx, if_neg (by simp [hx, e])]
end Go.Proofs.YtlflnfelhndohaaDoor
