/- slices.SortFunc of at most twelve nodes. Conditions: the nodes lie in a row of the caller's own. -/
import Derived.Test.YtlflnfelhndohaaHavA
import Derived.WalkSpells
import Derived.IntWalk
namespace Go.Proofs.Ytlflnfelhndohaa
open Go.RowKit Go.Shelf

theorem wrap_sm {x : Int} (h0 : 0 ≤ x) (h1 : x ≤ 1000000000000) : IntKind.i64.wrap x = x := IntWalk.i64_in _ (by omega)
section
variable {α : Type} {w w' : World} {B cap : Nat} {e : TypeId} {f g : α → Value} {A : Option Addr} {l : List α}
theorem flat2_set : ∀ (l : List α) (k : Nat) (x : α), k < l.length → (((l.flatMap fun a => [f a, g a]).set (k * 2) (f x)).set (k * 2 + 1) (g x)) = (l.set k x).flatMap fun a => [f a, g a]
  | [], k, x, h => by simp at h
  | a :: l, 0, x, _ => by simp
  | a :: l, k + 1, x, h => by
    have ih := flat2_set l k x (by simpa using h)
    rw [List.set_cons_succ, List.flatMap_cons, List.flatMap_cons, ← ih, show (k + 1) * 2 = k * 2 + 1 + 1 by omega]
    rfl
theorem Own.cell2 (h : Own w B e 2 (fun a => [f a, g a]) A cap l) {k : Nat} (hk : k < l.length) : ∃ b, A = some ⟨b, 0, none⟩ ∧ B ≤ b ∧ b < w.heap.size ∧ w.cell? ⟨b, k * 2, none⟩ = some (f l[k]) ∧ w.cell? ⟨b, k * 2 + 1, none⟩ = some (g l[k]) ∧ ∀ i, w.frozen? ⟨b, i, none⟩ = false := by
  obtain ⟨b, rfl, hb, hg⟩ := h.form_ (by omega)
  obtain ⟨b', off, he, _, c0, c1⟩ := h.els.at2 hk
  simp only [Option.some.injEq, Addr.mk.injEq] at he
  obtain ⟨rfl, rfl, _⟩ := he
  rw [Nat.zero_add] at c0 c1
  refine ⟨b, rfl, hb, hg, c0, c1, fun i => ?_⟩
  rcases h.2.2 with ⟨hv, _⟩ | ⟨g', cp, cur, hv, _, hh, _⟩
  · cases hv
  · injection hv with hv _ _
    cases hv
    exact frozen_of_row w b i cur e hh
theorem Own.put2 {b k : Nat} {x : α} (h : Own w B e 2 (fun a => [f a, g a]) (some ⟨b, 0, none⟩) cap l) (hk : k < l.length) : Own ((w.setCell ⟨b, k * 2, none⟩ (f x)).setCell ⟨b, k * 2 + 1, none⟩ (g x)) B e 2 (fun a => [f a, g a]) (some ⟨b, 0, none⟩) cap (l.set k x) := by
  refine ⟨fun _ => rfl, ?_⟩
  have := ((h.2.stored (k * 2) (f x)).1.stored (k * 2 + 1) (g x)).1
  rw [List.length_set, ← flat2_set l k x hk]
  exact this
end
theorem below_set2 {n : Nat} {w w' : World} (h : Below n w w') {b k : Nat} (hb : n ≤ b) (v0 v1 : Value) : Below n w ((w'.setCell ⟨b, k, none⟩ v0).setCell ⟨b, k + 1, none⟩ v1) :=
  (h.setCell hb v0).setCell hb v1
theorem ent_order : Ent Try.prog 46 := enters_of Try.func46 (by kernel_rfl) rfl
def keyN (l : List Nd) : List Int := l.map fun a => a.d * 16 - a.i
def nAt (l : List Nd) (k : Nat) : Nd := l.getD k ⟨0, 0⟩
abbrev pn (l : List Nd) (i : Int) : Nd := nAt l i.toNat
theorem val_key (l : List Nd) (a : Int) (h0 : 0 ≤ a) (h1 : a < l.length) : valZ (keyN l) a = (nAt l a.toNat).d * 16 - (nAt l a.toNat).i := by
  unfold valZ keyN nAt
  have h : a.toNat < l.length := by omega
  rw [List.getD_eq_getElem?_getD, List.getElem?_map, List.getD_eq_getElem?_getD, List.getElem?_eq_getElem h]
  rfl
theorem map_set_pn (l : List Nd) (u : List Int) (k : Nat) (x : Int) : (u.map (pn l)).set k (pn l x) = (u.set k x).map (pn l) := (List.map_set).symm
set_option maxRecDepth 100000 in
set_option maxHeartbeats 1000000 in
theorem insertion_nodes (l : List Nd) (A : Option Addr) (n cp B : Nat) (w : World) (hn : l.length = n) (h8 : n ≤ 16) (hok : ∀ k, k < n → 0 ≤ (nAt l k).i ∧ (nAt l k).i < 16) (ho : Own w B 96 2 Nd.cells A cp ((restL n 0).map (pn l))) (hB : B ≤ w.heap.size) :
    Calls Try.prog 89 #[.slice A n cp, .int .i64 0, .int .i64 n, .func (.func 46) #[] #[]] w fun e w' => (∃ v, e = .returned v) ∧ Below B w w' ∧ ∃ u, SortSt (keyN l) n n u ∧ Own w' B 96 2 Nd.cells A cp (u.map (pn l)) := by
  have HEN := ent_order
  unfold Ent at HEN
  have HOK := Lib.hid hok
  have HN := Lib.hid hn
  have HO := Lib.hid ho
  have hst : SortSt (keyN l) n (min 1 n) (restL n 0) := by
    have h0 := sort_start (keyN l) n
    by_cases h : n = 0
    · subst h; exact h0
    · rw [Nat.min_eq_left (by omega)]
      exact in_done (sort_enter h0 (by omega)) (.inl rfl)
  have HST := Lib.hid hst
  clear ho hst hok hn
  go_enter Try.func89, Try.ntmps89
  go_wp2_with fail
  go_loopw [8] (fun s wr => ∃ (k : Nat) (u : List Int), 1 ≤ k ∧ k ≤ n + 1 ∧ s = .int .i64 k ∧ Below B w wr ∧ SortSt (keyN l) n (min k n) u ∧ Own wr B 96 2 Nd.cells A cp (u.map (pn l))) (fun s _ => n - (intOf s).toNat)
  case atStart => exact ⟨1, _, by omega, by omega, rfl, Below.refl _ _, HST.out, HO.out⟩
  case round =>
    clear HST HO
    rename World => wr
    obtain ⟨k, u, hk1, hkn, rfl, hb, hst, hown⟩ := hrel
    have HB := Lib.hid hb
    have HST := Lib.hid hst
    have HO := Lib.hid hown
    by_cases hlt : k < n
    · have hin : InSt (keyN l) n k k u := sort_enter (by rw [Nat.min_eq_left (by omega)] at hst; exact hst) hlt
      have HIN := Lib.hid hin
      clear hb hst hown hin HST
      go_wp2_with fail
      go_loopw [9] (fun s w2 => ∃ (j : Nat) (u : List Int), j ≤ k ∧ s = .int .i64 j ∧ Below B w w2 ∧ InSt (keyN l) n k j u ∧ Own w2 B 96 2 Nd.cells A cp (u.map (pn l))) (fun s _ => (intOf s).toNat)
      case atStart => exact ⟨k, u, by omega, rfl, HB.out, HIN.out, HO.out⟩
      case round =>
        clear HB HIN HO
        rename World => w2
        obtain ⟨j, u, hj, rfl, hb, hin, hown⟩ := hrel
        have HB := Lib.hid hb
        have HIN := Lib.hid hin
        have HO := Lib.hid hown
        have hul := in_length hin hlt
        by_cases hj0 : j = 0
        · subst hj0
          have HD : Hid (SortSt (keyN l) n (min (k + 1) n) u) := Lib.hid (by rw [Nat.min_eq_left (by omega)]; exact in_done hin (.inl rfl))
          clear hb hin hown
          go_wp2_with fail
          go_quiet (fail)
          go_wp2_with fail
          go_roundw
          case rel => exact ⟨k + 1, u, by omega, by omega, by go_num, below_drewN HB.out _, HD.out, HO.out.drewN _⟩
          case measure => simp [intOf]; omega
        · obtain ⟨i, rfl⟩ : ∃ i, j = i + 1 := ⟨j - 1, by omega⟩
          obtain ⟨P, x, S, hu, hP, hx, hx0, hxk, _⟩ := in_last hin
          have hhere := (in_here hin).1
          have hl1 : i + 1 < (u.map (pn l)).length := by rw [List.length_map]; omega
          have hl2 : i < (u.map (pn l)).length := by rw [List.length_map]; omega
          obtain ⟨g, rfl, hg1, hg2, ca0, ca1, fz⟩ := hown.cell2 (f := fun a : Nd => .int .i64 a.i) (g := fun a : Nd => .int .i64 a.d) (k := i + 1) hl1
          obtain ⟨g', hgg, _, _, cb0, cb1, _⟩ := hown.cell2 (f := fun a : Nd => .int .i64 a.i) (g := fun a : Nd => .int .i64 a.d) (k := i) hl2
          obtain rfl : g = g' := by simpa using hgg
          have e1 : (u.map (pn l))[i + 1] = pn l k := by rw [List.getElem_map, ← getD_at u _ (by omega) 0, hhere]
          have e2 : (u.map (pn l))[i] = pn l x := by rw [List.getElem_map, ← getD_at u _ (by omega) 0, hx]
          rw [e1] at ca0 ca1
          rw [e2] at cb0 cb1
          have hvk := val_key l k (by omega) (by rw [HN.out]; omega)
          have hvx := val_key l x hx0 (by rw [HN.out]; omega)
          have hbk := HOK.out (k : Int).toNat (by omega)
          have hbx := HOK.out x.toNat (by omega)
          have hdone : ¬ valZ (keyN l) x < valZ (keyN l) k → SortSt (keyN l) n (min (k + 1) n) u := fun h => by
            rw [Nat.min_eq_left (by omega)]
            exact in_done hin (.inr ⟨i, rfl, by rw [hx]; exact h⟩)
          have hswap : valZ (keyN l) x < valZ (keyN l) k → InSt (keyN l) n k i ((u.set (i + 1) x).set i k) := fun h => by
            have := in_swap hin (by rw [hx]; exact h)
            rwa [hx] at this
          obtain ⟨y, hy⟩ : ∃ y, y = pn l x := ⟨_, rfl⟩
          obtain ⟨z, hz⟩ : ∃ z, z = pn l k := ⟨_, rfl⟩
          rw [← hy] at cb0 cb1
          rw [← hz] at ca0 ca1
          rw [hvk, hvx, show nAt l x.toNat = y from hy.symm, show nAt l (k : Int).toNat = z from hz.symm] at hdone hswap
          rw [show nAt l x.toNat = y from hy.symm] at hbx
          rw [show nAt l (k : Int).toNat = z from hz.symm] at hbk
          have HCL := Lib.hid (node_order z y w2.drew)
          obtain ⟨dz, hdz⟩ : ∃ dz, dz = ordN z y := ⟨_, rfl⟩
          rw [← hdz] at HCL
          have hzs := hb.size
          have hq1 : ((i + 1 : Nat) : Int) - 1 = (i : Int) := by omega
          have hx1 : 0 ≤ (i : Int) + 1 := by omega
          have hx2 : (i : Int) + 1 < (n : Int) := by omega
          have hx3 : (i : Int) < (n : Int) := by omega
          have hwr : IntKind.i64.wrap (i : Int) = (i : Int) := wrap_sm (by omega) (by omega)
          have hgd : decide ((0 : Int) < (i : Int) + 1) = true := decide_eq_true (by omega)
          have HDN := Lib.hid hdone
          have HBK := Lib.hid hbk
          have HBX := Lib.hid hbx
          have HSW := Lib.hid hswap
          have HY := Lib.hid hy
          have HZ := Lib.hid hz
          have HE1 := Lib.hid e1
          have HE2 := Lib.hid e2
          have HDZ := Lib.hid hdz
          have HUL := Lib.hid hul
          clear hb hin hown hu hP hx hhere hgg hdone hswap e1 e2 hvk hvx hbk hbx hy hz fz hdz hul
          go_wp2_with fail
          refine region_plain 14 17 (fun w' => w' = w2.drew) (by kernel_rfl) rfl ?_
          refine anyC_reads (by kernel_rfl) [0, 1, 2, 3, 4, 5, 6, 7, 8, 9, 10, 11, 12, 13] ?opc ?ohc 3 _ _ _ (by kernel_rfl) ?okc
          case ohc => (simp only [List.filterMap_cons, List.filterMap_nil, List.getElem?_toArray, List.getElem?_cons_zero, List.getElem?_cons_succ]; try rfl)
          repeat (
            refine readC_step (v := ?_) rfl (fun w' hw' => ?_) ?_
            rotate_left
            focus (subst hw'; go_simp; try with_reducible rfl)
            go_simp)
          refine readC_nil ?_
          refine anyC_one (i := 14) (by kernel_rfl) rfl rfl (.inr rfl) ?_
          go_simp
          refine HCL.out.mono ?_
          clear HCL ca0 ca1 cb0 cb1
          rintro e w3 ⟨rfl, hb3⟩
          have hb3' : Below B w w3 := HB.out.drew.trans (hb3.mono (show B ≤ w2.drew.heap.size from Nat.le_trans hB hzs))
          have hown := HO.out.drew.below hb3 (Nat.le_refl _)
          obtain ⟨g', hgg, hg1, hg2, ca0, ca1, fz⟩ := hown.cell2 (f := fun a : Nd => .int .i64 a.i) (g := fun a : Nd => .int .i64 a.d) (k := i + 1) hl1
          obtain rfl : g = g' := by simpa using hgg
          obtain ⟨g', hgg, _, _, cb0, cb1, _⟩ := hown.cell2 (f := fun a : Nd => .int .i64 a.i) (g := fun a : Nd => .int .i64 a.d) (k := i) hl2
          obtain rfl : g = g' := by simpa using hgg
          rw [HE1.out, ← HZ.out] at ca0 ca1
          rw [HE2.out, ← HY.out] at cb0 cb1
          have hput := (hown.put2 (f := fun a : Nd => .int .i64 a.i) (g := fun a : Nd => .int .i64 a.d) (k := i + 1) (x := y) hl1).put2 (f := fun a : Nd => .int .i64 a.i) (g := fun a : Nd => .int .i64 a.d) (k := i) (x := z) (by rw [List.length_set]; exact hl2)
          have fz0 := fz ((i + 1) * 2)
          have fz1 := fz ((i + 1) * 2 + 1)
          have fy0 := fz (i * 2)
          have fy1 := fz (i * 2 + 1)
          have HPUT := Lib.hid hput
          have HB3 := Lib.hid hb3'
          have HO3 := Lib.hid hown
          clear hb3 hb3' hown hgg fz hput
          refine anyC_one (i := 15) (by kernel_rfl) rfl rfl (.inl rfl) ?_
          go_simp
          refine anyC_one (i := 16) (by kernel_rfl) rfl rfl (.inl rfl) ?_
          go_simp
          refine anyC_end (by kernel_rfl) (.inl rfl) ?_
          by_cases hc : dz < 0
          · have HIN2 := Lib.hid (HSW.out (by have h1 := ordN_neg z y; rw [← HDZ.out] at h1; have := HBK.out; have := HBX.out; have := h1.1 hc; omega))
            go_wp2_with fail
            go_region
            all_goals
              go_wp2_with fail
              go_roundw
              case rel =>
                have e : ((u.map (pn l)).set (i + 1) y).set i z = ((u.set (i + 1) x).set i (k : Int)).map (pn l) := by rw [HY.out, HZ.out, map_set_pn, map_set_pn]
                exact ⟨i, _, by omega, by go_num, (below_set2 (below_set2 HB3.out hg1 _ _) hg1 _ _).drew, HIN2.out, by rw [← e]; exact HPUT.out.drew⟩
              case measure => simp [intOf] <;> omega
          · have HD := Lib.hid (HDN.out (by have h1 := ordN_neg z y; rw [← HDZ.out] at h1; have := HBK.out; have := HBX.out; have h2 : ¬ (y.d < z.d ∨ z.d = y.d ∧ z.i < y.i) := fun h => hc (h1.2 h); omega))
            go_wp2_with fail
            go_roundw
            case rel => exact ⟨k + 1, u, by omega, by omega, by go_num, HB3.out, HD.out, HO3.out⟩
            case measure => simp [intOf]; omega
    · have hmin : min k n = n := by omega
      rw [hmin] at hst
      have HS2 := Lib.hid hst
      clear hb hst hown
      go_wp2_with fail
      go_end0
      exact ⟨⟨_, rfl⟩, HB.out, u, HS2.out, HO.out⟩
end Go.Proofs.Ytlflnfelhndohaa
