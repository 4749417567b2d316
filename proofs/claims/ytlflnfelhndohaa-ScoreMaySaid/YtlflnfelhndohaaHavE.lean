/- slices.SortFunc of at most twelve nodes that lie behind some others in their row. Conditions: the row is the caller's own. -/
import Derived.Test.YtlflnfelhndohaaHavD
import Derived.Test.YtlflnfelhndohaaHeldB
namespace Go.Proofs.Ytlflnfelhndohaa
open Go.RowKit Go.Shelf

/-- Nodes in a row of one's own, behind some others. -/
structure OwnAt (w : World) (B g o cp : Nat) (pre L : List Nd) : Prop where
  own : Own w B 96 2 Nd.cells (some ⟨g, 0, none⟩) cp (pre ++ L)
  off : o = pre.length * 2
section
variable {w w' : World} {B g o cp : Nat} {pre L : List Nd}
theorem OwnAt.below (h : OwnAt w B g o cp pre L) {b : Nat} (hb : Below b w w') (hB : w.heap.size ≤ b) : OwnAt w' B g o cp pre L := ⟨h.own.below hb hB, h.off⟩
theorem OwnAt.drew (h : OwnAt w B g o cp pre L) : OwnAt w.drew B g o cp pre L := ⟨h.own.drew, h.off⟩
theorem OwnAt.drewN (h : OwnAt w B g o cp pre L) (n : Nat) : OwnAt (w.drewN n) B g o cp pre L := ⟨h.own.drewN n, h.off⟩
theorem OwnAt.cell (h : OwnAt w B g o cp pre L) {k : Nat} (hk : k < L.length) : B ≤ g ∧ g < w.heap.size ∧ w.cell? ⟨g, o + k * 2, none⟩ = some (.int .i64 L[k].i) ∧ w.cell? ⟨g, o + k * 2 + 1, none⟩ = some (.int .i64 L[k].d) ∧ ∀ i, w.frozen? ⟨g, i, none⟩ = false := by
  obtain ⟨g', hg, h1, h2, c0, c1, fz⟩ := h.own.cell2 (f := fun a : Nd => .int .i64 a.i) (g := fun a : Nd => .int .i64 a.d) (k := pre.length + k) (by rw [List.length_append]; omega)
  obtain rfl : g = g' := by simpa using hg
  have e : (pre ++ L)[pre.length + k]'(by rw [List.length_append]; omega) = L[k] := by
    rw [List.getElem_append_right (by omega)]
    congr 1
    omega
  rw [e] at c0 c1
  have e2 : (pre.length + k) * 2 = o + k * 2 := by rw [h.off]; omega
  rw [e2] at c0 c1
  exact ⟨h1, h2, c0, c1, fz⟩
theorem OwnAt.put (h : OwnAt w B g o cp pre L) {k : Nat} {x : Nd} (hk : k < L.length) : OwnAt ((w.setCell ⟨g, o + k * 2, none⟩ (.int .i64 x.i)).setCell ⟨g, o + k * 2 + 1, none⟩ (.int .i64 x.d)) B g o cp pre (L.set k x) := by
  refine ⟨?_, h.off⟩
  have h1 := h.own.put2 (f := fun a : Nd => .int .i64 a.i) (g := fun a : Nd => .int .i64 a.d) (k := pre.length + k) (x := x) (by rw [List.length_append]; omega)
  have e2 : (pre.length + k) * 2 = o + k * 2 := by rw [h.off]; omega
  rw [e2, List.set_append_right _ _ (by omega), show pre.length + k - pre.length = k by omega] at h1
  exact h1
end
set_option maxRecDepth 100000 in
set_option maxHeartbeats 1000000 in
theorem insertion_at (l pre : List Nd) (g o n cp cs B : Nat) (w : World) (hn : l.length = n) (h8 : n ≤ 16) (hok : ∀ k, k < n → 0 ≤ (nAt l k).i ∧ (nAt l k).i < 16) (ho : OwnAt w B g o cp pre ((restL n 0).map (pn l))) (hB : B ≤ w.heap.size) :
    Calls Try.prog 89 #[.slice (some ⟨g, o, none⟩) n cs, .int .i64 0, .int .i64 n, .func (.func 46) #[] #[]] w fun e w' => (∃ v, e = .returned v) ∧ Held [g] w w' ∧ ∃ u, SortSt (keyN l) n n u ∧ OwnAt w' B g o cp pre (u.map (pn l)) := by
  have HEN := ent_order
  unfold Ent at HEN
  have HOK := Lib.hid hok
  have HN := Lib.hid hn
  have HO := Lib.hid ho
  have hst : SortSt (keyN l) n (min 1 n) (restL n 0) := by
    have h0 := sort_start (keyN l) n
    by_cases h : n = 0
    · subst h; exact h0
    · rw [Nat.min_eq_left (by omega)]
      exact in_done (sort_enter h0 (by omega)) (.inl rfl)
  have HST := Lib.hid hst
  clear ho hst hok hn
  go_enter Try.func89, Try.ntmps89
  go_wp2_with fail
  go_loopw [8] (fun s wr => ∃ (k : Nat) (u : List Int), 1 ≤ k ∧ k ≤ n + 1 ∧ s = .int .i64 k ∧ Held [g] w wr ∧ SortSt (keyN l) n (min k n) u ∧ OwnAt wr B g o cp pre (u.map (pn l))) (fun s _ => n - (intOf s).toNat)
  case atStart => exact ⟨1, _, by omega, by omega, rfl, Held.refl _ _, HST.out, HO.out⟩
  case round =>
    clear HST HO
    rename World => wr
    obtain ⟨k, u, hk1, hkn, rfl, hb, hst, hown⟩ := hrel
    have HB := Lib.hid hb
    have HST := Lib.hid hst
    have HO := Lib.hid hown
    by_cases hlt : k < n
    · have hin : InSt (keyN l) n k k u := sort_enter (by rw [Nat.min_eq_left (by omega)] at hst; exact hst) hlt
      have HIN := Lib.hid hin
      clear hb hst hown hin HST
      go_wp2_with fail
      go_loopw [9] (fun s w2 => ∃ (j : Nat) (u : List Int), j ≤ k ∧ s = .int .i64 j ∧ Held [g] w w2 ∧ InSt (keyN l) n k j u ∧ OwnAt w2 B g o cp pre (u.map (pn l))) (fun s _ => (intOf s).toNat)
      case atStart => exact ⟨k, u, by omega, rfl, HB.out, HIN.out, HO.out⟩
      case round =>
        clear HB HIN HO
        rename World => w2
        obtain ⟨j, u, hj, rfl, hb, hin, hown⟩ := hrel
        have HB := Lib.hid hb
        have HIN := Lib.hid hin
        have HO := Lib.hid hown
        have hul := in_length hin hlt
        by_cases hj0 : j = 0
        · subst hj0
          have HD : Hid (SortSt (keyN l) n (min (k + 1) n) u) := Lib.hid (by rw [Nat.min_eq_left (by omega)]; exact in_done hin (.inl rfl))
          clear hb hin hown
          go_wp2_with fail
          go_quiet (fail)
          go_wp2_with fail
          go_roundw
          case rel => exact ⟨k + 1, u, by omega, by omega, by go_num, HB.out.drew _, HD.out, HO.out.drewN _⟩
          case measure => simp [intOf]; omega
        · obtain ⟨i, rfl⟩ : ∃ i, j = i + 1 := ⟨j - 1, by omega⟩
          obtain ⟨P, x, S, hu, hP, hx, hx0, hxk, _⟩ := in_last hin
          have hhere := (in_here hin).1
          have hl1 : i + 1 < (u.map (pn l)).length := by rw [List.length_map]; omega
          have hl2 : i < (u.map (pn l)).length := by rw [List.length_map]; omega
          obtain ⟨hg1, hg2, ca0, ca1, fz⟩ := hown.cell (k := i + 1) hl1
          obtain ⟨_, _, cb0, cb1, _⟩ := hown.cell (k := i) hl2
          have e1 : (u.map (pn l))[i + 1] = pn l k := by rw [List.getElem_map, ← getD_at u _ (by omega) 0, hhere]
          have e2 : (u.map (pn l))[i] = pn l x := by rw [List.getElem_map, ← getD_at u _ (by omega) 0, hx]
          rw [e1] at ca0 ca1
          rw [e2] at cb0 cb1
          have hvk := val_key l k (by omega) (by rw [HN.out]; omega)
          have hvx := val_key l x hx0 (by rw [HN.out]; omega)
          have hbk := HOK.out (k : Int).toNat (by omega)
          have hbx := HOK.out x.toNat (by omega)
          have hdone : ¬ valZ (keyN l) x < valZ (keyN l) k → SortSt (keyN l) n (min (k + 1) n) u := fun h => by
            rw [Nat.min_eq_left (by omega)]
            exact in_done hin (.inr ⟨i, rfl, by rw [hx]; exact h⟩)
          have hswap : valZ (keyN l) x < valZ (keyN l) k → InSt (keyN l) n k i ((u.set (i + 1) x).set i k) := fun h => by
            have := in_swap hin (by rw [hx]; exact h)
            rwa [hx] at this
          obtain ⟨y, hy⟩ : ∃ y, y = pn l x := ⟨_, rfl⟩
          obtain ⟨z, hz⟩ : ∃ z, z = pn l k := ⟨_, rfl⟩
          rw [← hy] at cb0 cb1
          rw [← hz] at ca0 ca1
          rw [hvk, hvx, show nAt l x.toNat = y from hy.symm, show nAt l (k : Int).toNat = z from hz.symm] at hdone hswap
          rw [show nAt l x.toNat = y from hy.symm] at hbx
          rw [show nAt l (k : Int).toNat = z from hz.symm] at hbk
          have HCL := Lib.hid (node_order z y w2.drew)
          obtain ⟨dz, hdz⟩ : ∃ dz, dz = ordN z y := ⟨_, rfl⟩
          rw [← hdz] at HCL
          have hzs := hb.size
          have hq1 : ((i + 1 : Nat) : Int) - 1 = (i : Int) := by omega
          have hx1 : 0 ≤ (i : Int) + 1 := by omega
          have hx2 : (i : Int) + 1 < (n : Int) := by omega
          have hx3 : (i : Int) < (n : Int) := by omega
          have hwr : IntKind.i64.wrap (i : Int) = (i : Int) := wrap_sm (by omega) (by omega)
          have hgd : decide ((0 : Int) < (i : Int) + 1) = true := decide_eq_true (by omega)
          have HDN := Lib.hid hdone
          have HBK := Lib.hid hbk
          have HBX := Lib.hid hbx
          have HSW := Lib.hid hswap
          have HY := Lib.hid hy
          have HZ := Lib.hid hz
          have HE1 := Lib.hid e1
          have HE2 := Lib.hid e2
          have HDZ := Lib.hid hdz
          have HUL := Lib.hid hul
          clear hb hin hown hu hP hx hhere  hdone hswap e1 e2 hvk hvx hbk hbx hy hz fz hdz hul
          go_wp2_with fail
          refine region_plain 14 17 (fun w' => w' = w2.drew) (by kernel_rfl) rfl ?_
          refine anyC_reads (by kernel_rfl) [0, 1, 2, 3, 4, 5, 6, 7, 8, 9, 10, 11, 12, 13] ?opc ?ohc 3 _ _ _ (by kernel_rfl) ?okc
          case ohc => (simp only [List.filterMap_cons, List.filterMap_nil, List.getElem?_toArray, List.getElem?_cons_zero, List.getElem?_cons_succ]; try rfl)
          repeat (
            refine readC_step (v := ?_) rfl (fun w' hw' => ?_) ?_
            rotate_left
            focus (subst hw'; go_simp; try with_reducible rfl)
            go_simp)
          refine readC_nil ?_
          refine anyC_one (i := 14) (by kernel_rfl) rfl rfl (.inr rfl) ?_
          go_simp
          refine HCL.out.mono ?_
          clear HCL ca0 ca1 cb0 cb1
          rintro e w3 ⟨rfl, hb3⟩
          have hb3' : Held [g] w w3 := HB.out.drew1.below hb3 (Nat.le_refl _)
          have hown := HO.out.drew.below hb3 (Nat.le_refl _)
          obtain ⟨hg1, hg2, ca0, ca1, fz⟩ := hown.cell (k := i + 1) hl1
          obtain ⟨_, _, cb0, cb1, _⟩ := hown.cell (k := i) hl2
          rw [HE1.out, ← HZ.out] at ca0 ca1
          rw [HE2.out, ← HY.out] at cb0 cb1
          have hput := (hown.put (k := i + 1) (x := y) hl1).put (k := i) (x := z) (by rw [List.length_set]; exact hl2)
          have fz0 := fz (o + (i + 1) * 2)
          have fz1 := fz (o + (i + 1) * 2 + 1)
          have fy0 := fz (o + i * 2)
          have fy1 := fz (o + i * 2 + 1)
          have HPUT := Lib.hid hput
          have HB3 := Lib.hid hb3'
          have HO3 := Lib.hid hown
          clear hb3 hb3' hown  fz hput
          refine anyC_one (i := 15) (by kernel_rfl) rfl rfl (.inl rfl) ?_
          go_simp
          refine anyC_one (i := 16) (by kernel_rfl) rfl rfl (.inl rfl) ?_
          go_simp
          refine anyC_end (by kernel_rfl) (.inl rfl) ?_
          by_cases hc : dz < 0
          · have HIN2 := Lib.hid (HSW.out (by have h1 := ordN_neg z y; rw [← HDZ.out] at h1; have := HBK.out; have := HBX.out; have := h1.1 hc; omega))
            go_wp2_with fail
            go_region
            all_goals
              go_wp2_with fail
              go_roundw
              case rel =>
                have e : ((u.map (pn l)).set (i + 1) y).set i z = ((u.set (i + 1) x).set i (k : Int)).map (pn l) := by rw [HY.out, HZ.out, map_set_pn, map_set_pn]
                exact ⟨i, _, by omega, by go_num, ((((HB3.out.setCell (List.mem_singleton.2 rfl) _).setCell (List.mem_singleton.2 rfl) _).setCell (List.mem_singleton.2 rfl) _).setCell (List.mem_singleton.2 rfl) _).drew1, HIN2.out, by rw [← e]; exact HPUT.out.drew⟩
              case measure => simp [intOf] <;> omega
          · have HD := Lib.hid (HDN.out (by have h1 := ordN_neg z y; rw [← HDZ.out] at h1; have := HBK.out; have := HBX.out; have h2 : ¬ (y.d < z.d ∨ z.d = y.d ∧ z.i < y.i) := fun h => hc (h1.2 h); omega))
            go_wp2_with fail
            go_roundw
            case rel => exact ⟨k + 1, u, by omega, by omega, by go_num, HB3.out, HD.out, HO3.out⟩
            case measure => simp [intOf]; omega
    · have hmin : min k n = n := by omega
      rw [hmin] at hst
      have HS2 := Lib.hid hst
      clear hb hst hown
      go_wp2_with fail
      go_end0
      exact ⟨⟨_, rfl⟩, HB.out, u, HS2.out, HO.out⟩
set_option maxRecDepth 100000 in
theorem sort_at (l pre : List Nd) (g o n cp cs B : Nat) (w : World) (hn : l.length = n) (h8 : n ≤ 12) (hok : ∀ k, k < n → 0 ≤ (nAt l k).i ∧ (nAt l k).i < 16) (ho : OwnAt w B g o cp pre l) (hB : B ≤ w.heap.size) :
    Calls Try.prog 45 #[.slice (some ⟨g, o, none⟩) n cs, .func (.func 46) #[] #[]] w fun e w' => (∃ v, e = .returned v) ∧ Held [g] w w' ∧ OwnAt w' B g o cp pre ((ordNs l).map (pn l)) := by
  have hl0 : l = (restL n 0).map (pn l) := by
    unfold restL
    rw [Nat.sub_zero, List.map_map]
    refine List.ext_getElem (by simp [hn]) fun i h1 h2 => ?_
    rw [List.getElem_map, List.getElem_range]
    show l[i] = nAt l ((0 + i : Nat) : Int).toNat
    rw [Nat.zero_add, Int.toNat_natCast]
    unfold nAt
    rw [getD_at l i h1]
  have HI := Lib.hid (insertion_at l pre g o n cp cs B w hn (by omega) hok (by rw [← hl0]; exact ho) hB)
  have HN := Lib.hid hn
  have hw : IntKind.u64.wrap (n : Int) = (n : Int) := by
    have h : ∀ i : Fin 13, IntKind.u64.wrap ((i.val : Nat) : Int) = (i.val : Int) := by decide +kernel
    exact h ⟨n, by omega⟩
  have HLEN := Lib.hid (len_small n h8 w)
  have hle : (n : Int) ≤ 12 := by omega
  have hw0 : IntKind.i64.wrap ((n : Int) - 0) = (n : Int) := by rw [Int.sub_zero]; exact wrap_sm (by omega) (by omega)
  clear ho hok hl0 hn
  have HS : Hid (∀ v : Int, Calls Try.prog 65 #[.slice (some ⟨g, o, none⟩) n cs, .int .i64 0, .int .i64 n, .int .i64 v, .func (.func 46) #[] #[]] w fun e w' => (∃ v, e = .returned v) ∧ Held [g] w w' ∧ ∃ u, SortSt (keyN l) n n u ∧ OwnAt w' B g o cp pre (u.map (pn l))) := Lib.hid (fun v => by
    go_enter Try.func65, Try.ntmps65
    go_wp2_with fail
    go_loopw [1, 2] (fun s1 s2 wr => s1 = .int .i64 0 ∧ s2 = .int .i64 n ∧ w = wr) (fun _ _ _ => 0)
    case atStart => exact ⟨rfl, rfl, rfl⟩
    case round =>
      rename World => wr
      obtain ⟨rfl, rfl, rfl⟩ := hrel
      go_wp2_with fail
      refine HI.out.mono ?_
      rintro e w' ⟨⟨v, rfl⟩, hb, hu⟩
      have HB := Lib.hid hb
      have HU := Lib.hid hu
      clear hb hu
      go_wp2_with fail
      refine bodyPost_ret (results_none rfl _ _ _) rfl ?_
      exact ⟨⟨_, rfl⟩, HB.out, HU.out⟩)
  go_enter Try.func45, Try.ntmps45
  go_wp2_with fail
  refine HLEN.out.mono ?_
  rintro e w1 ⟨⟨v, rfl⟩, rfl⟩
  go_wp2_with fail
  refine (HS.out v).mono ?_
  rintro e w' ⟨⟨v, rfl⟩, hb, u, hst, hu⟩
  obtain ⟨rfl, _⟩ := sort_end (by unfold keyN; rw [List.length_map]; exact HN.out) hst
  have e : fallsTo (keyN l) n = ordNs l := by unfold ordNs; rw [HN.out]
  rw [e] at hu
  have HB := Lib.hid hb
  have HU := Lib.hid hu
  clear hb hu hst e
  go_wp2_with fail
  go_end0
  exact ⟨⟨_, rfl⟩, HB.out, HU.out⟩
end Go.Proofs.Ytlflnfelhndohaa
