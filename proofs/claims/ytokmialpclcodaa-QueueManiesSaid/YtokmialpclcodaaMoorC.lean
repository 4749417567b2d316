/- slices.SortStableFunc of at most sixteen jobs, by when they are due; slices.Clone of jobs. Conditions: the jobs lie in a row of the caller's own. -/
import Derived.Test.YtokmialpclcodaaSortP
import Derived.Test.YtokmialpclcodaaQueW
import Derived.Test.YtokmialpclcodaaSnoc
import Derived.Test.YtokmialpclcodaaRegC
import Derived.Test.YtokmialpclcodaaMoorQ
import Derived.WalkSpells
import Derived.IntWalk
namespace Go.Proofs.Ytokmialpclcodaa
open Go.RowKit Go.Shelf

theorem wrap_sm {x : Int} (h0 : 0 ≤ x) (h1 : x ≤ 1000000000000) : IntKind.i64.wrap x = x := IntWalk.i64_in _ (by omega)
section
variable {α : Type} {w w' : World} {B cap : Nat} {e : TypeId} {f g p q : α → Value} {A : Option Addr} {l : List α}
theorem flat4_set : ∀ (l : List α) (k : Nat) (x : α), k < l.length → (((((l.flatMap fun a => [f a, g a, p a, q a]).set (k * 4) (f x)).set (k * 4 + 1) (g x)).set (k * 4 + 2) (p x)).set (k * 4 + 3) (q x)) = (l.set k x).flatMap fun a => [f a, g a, p a, q a]
  | [], k, x, h => by simp at h
  | a :: l, 0, x, _ => by simp
  | a :: l, k + 1, x, h => by
    have ih := flat4_set l k x (by simpa using h)
    rw [List.set_cons_succ, List.flatMap_cons, List.flatMap_cons, ← ih, show (k + 1) * 4 = k * 4 + 1 + 1 + 1 + 1 by omega]
    rfl
theorem Own.cell4 (h : Own w B e 4 (fun a => [f a, g a, p a, q a]) A cap l) {k : Nat} (hk : k < l.length) : ∃ b, A = some ⟨b, 0, none⟩ ∧ B ≤ b ∧ b < w.heap.size ∧ w.cell? ⟨b, k * 4, none⟩ = some (f l[k]) ∧ w.cell? ⟨b, k * 4 + 1, none⟩ = some (g l[k]) ∧ w.cell? ⟨b, k * 4 + 2, none⟩ = some (p l[k]) ∧ w.cell? ⟨b, k * 4 + 3, none⟩ = some (q l[k]) ∧ ∀ i, w.frozen? ⟨b, i, none⟩ = false := by
  obtain ⟨b, rfl, hb, hg⟩ := h.form_ (by omega)
  obtain ⟨b', off, he, _, c0, c1, c2, c3⟩ := h.els.at4 hk
  simp only [Option.some.injEq, Addr.mk.injEq] at he
  obtain ⟨rfl, rfl, _⟩ := he
  rw [Nat.zero_add] at c0 c1 c2 c3
  refine ⟨b, rfl, hb, hg, c0, c1, c2, c3, fun i => ?_⟩
  rcases h.2.2 with ⟨hv, _⟩ | ⟨g', cp, cur, hv, _, hh, _⟩
  · cases hv
  · injection hv with hv _ _
    cases hv
    exact frozen_of_row w b i cur e hh
theorem Own.put4 {b k : Nat} {x : α} (h : Own w B e 4 (fun a => [f a, g a, p a, q a]) (some ⟨b, 0, none⟩) cap l) (hk : k < l.length) : Own ((((w.setCell ⟨b, k * 4, none⟩ (f x)).setCell ⟨b, k * 4 + 1, none⟩ (g x)).setCell ⟨b, k * 4 + 2, none⟩ (p x)).setCell ⟨b, k * 4 + 3, none⟩ (q x)) B e 4 (fun a => [f a, g a, p a, q a]) (some ⟨b, 0, none⟩) cap (l.set k x) := by
  refine ⟨fun _ => rfl, ?_⟩
  have := ((((h.2.stored (k * 4) (f x)).1.stored (k * 4 + 1) (g x)).1.stored (k * 4 + 2) (p x)).1.stored (k * 4 + 3) (q x)).1
  rw [List.length_set, ← flat4_set l k x hk]
  exact this
end
theorem below_set4 {n : Nat} {w w' : World} (h : Below n w w') {b k : Nat} (hb : n ≤ b) (v0 v1 v2 v3 : Value) : Below n w ((((w'.setCell ⟨b, k, none⟩ v0).setCell ⟨b, k + 1, none⟩ v1).setCell ⟨b, k + 2, none⟩ v2).setCell ⟨b, k + 3, none⟩ v3) :=
  (((h.setCell hb v0).setCell hb v1).setCell hb v2).setCell hb v3

set_option maxRecDepth 100000 in
theorem due_cmp (a b : Jb) (w : World) (hab : -1048576 ≤ a.x - b.x ∧ a.x - b.x ≤ 1048576) : Calls Try.prog 36 #[a.agg, b.agg] w fun e w' => e = .returned (.int .i64 (a.x - b.x)) ∧ Below w.heap.size w w' := by
  have hz : (w.alloc (.cells #[.int .i64 a.t, a.s.val, .int .i64 a.x, .int .i64 a.y] 77)).heap.size = w.heap.size + 1 := by simp
  have HB := Lib.hid (((Below.refl w.heap.size w).alloc (Nat.le_refl _) (.cells #[.int .i64 a.t, a.s.val, .int .i64 a.x, .int .i64 a.y] 77)).alloc (by rw [hz]; omega) (.cells #[.int .i64 b.t, b.s.val, .int .i64 b.x, .int .i64 b.y] 77))
  have n1 := ((Blk.new w 77 #[.int .i64 a.t, a.s.val, .int .i64 a.x, .int .i64 a.y]).alloc (.cells #[.int .i64 b.t, b.s.val, .int .i64 b.x, .int .i64 b.y] 77)).cell 2
  have n2 := (Blk.new (w.alloc (.cells #[.int .i64 a.t, a.s.val, .int .i64 a.x, .int .i64 a.y] 77)) 77 #[.int .i64 b.t, b.s.val, .int .i64 b.x, .int .i64 b.y]).cell 2
  rw [hz] at n2
  go_enter Try.func36, Try.ntmps36
  go_wp2_with fail
  go_ret
  exact ⟨rfl, HB.out⟩
theorem ent_due1 : Ent Try.prog 36 := enters_of Try.func36 (by kernel_rfl) rfl

abbrev pj (l : List Jb) (i : Int) : Jb := jAt l i.toNat
theorem map_set_pj (l : List Jb) (u : List Int) (k : Nat) (x : Int) : (u.map (pj l)).set k (pj l x) = (u.set k x).map (pj l) := (List.map_set).symm
set_option maxRecDepth 100000 in
set_option maxHeartbeats 1000000 in
theorem insertion_jobs (l : List Jb) (A : Option Addr) (n cp B : Nat) (w : World) (hn : l.length = n) (h8 : n ≤ 16) (hok : l.any (badJ Jb.x) = false) (ho : Own w B 77 4 Jb.cells A cp ((restL n 0).map (pj l))) (hB : B ≤ w.heap.size) :
    Calls Try.prog 90 #[.slice A n cp, .int .i64 0, .int .i64 n, .func (.func 36) #[] #[]] w fun e w' => (∃ v, e = .returned v) ∧ Below B w w' ∧ ∃ u, SortSt (dueN l) n n u ∧ Own w' B 77 4 Jb.cells A cp (u.map (pj l)) := by
  have HEN := ent_due1
  unfold Ent at HEN
  have HOK := Lib.hid hok
  have HN := Lib.hid hn
  have HO := Lib.hid ho
  have hst : SortSt (dueN l) n (min 1 n) (restL n 0) := by
    have h0 := sort_start (dueN l) n
    by_cases h : n = 0
    · subst h; exact h0
    · rw [Nat.min_eq_left (by omega)]
      exact in_done (sort_enter h0 (by omega)) (.inl rfl)
  have HST := Lib.hid hst
  clear ho hst hok hn
  go_enter Try.func90, Try.ntmps90
  go_wp2_with fail
  go_loopw [8] (fun s wr => ∃ (k : Nat) (u : List Int), 1 ≤ k ∧ k ≤ n + 1 ∧ s = .int .i64 k ∧ Below B w wr ∧ SortSt (dueN l) n (min k n) u ∧ Own wr B 77 4 Jb.cells A cp (u.map (pj l))) (fun s _ => n - (intOf s).toNat)
  case atStart => exact ⟨1, _, by omega, by omega, rfl, Below.refl _ _, HST.out, HO.out⟩
  case round =>
    clear HST HO
    rename World => wr
    obtain ⟨k, u, hk1, hkn, rfl, hb, hst, hown⟩ := hrel
    have HB := Lib.hid hb
    have HST := Lib.hid hst
    have HO := Lib.hid hown
    by_cases hlt : k < n
    · have hin : InSt (dueN l) n k k u := sort_enter (by rw [Nat.min_eq_left (by omega)] at hst; exact hst) hlt
      have HIN := Lib.hid hin
      clear hb hst hown hin HST
      go_wp2_with fail
      go_loopw [9] (fun s w2 => ∃ (j : Nat) (u : List Int), j ≤ k ∧ s = .int .i64 j ∧ Below B w w2 ∧ InSt (dueN l) n k j u ∧ Own w2 B 77 4 Jb.cells A cp (u.map (pj l))) (fun s _ => (intOf s).toNat)
      case atStart => exact ⟨k, u, by omega, rfl, HB.out, HIN.out, HO.out⟩
      case round =>
        clear HB HIN HO
        rename World => w2
        obtain ⟨j, u, hj, rfl, hb, hin, hown⟩ := hrel
        have HB := Lib.hid hb
        have HIN := Lib.hid hin
        have HO := Lib.hid hown
        have hul := in_length hin hlt
        by_cases hj0 : j = 0
        · subst hj0
          have HD : Hid (SortSt (dueN l) n (min (k + 1) n) u) := Lib.hid (by rw [Nat.min_eq_left (by omega)]; exact in_done hin (.inl rfl))
          clear hb hin hown
          go_wp2_with fail
          go_quiet (fail)
          go_wp2_with fail
          go_roundw
          case rel => exact ⟨k + 1, u, by omega, by omega, by go_num, below_drewN HB.out _, HD.out, HO.out.drewN _⟩
          case measure => simp [intOf]; omega
        · obtain ⟨i, rfl⟩ : ∃ i, j = i + 1 := ⟨j - 1, by omega⟩
          obtain ⟨P, x, S, hu, hP, hx, hx0, hxk, _⟩ := in_last hin
          have hhere := (in_here hin).1
          have hl1 : i + 1 < (u.map (pj l)).length := by rw [List.length_map]; omega
          have hl2 : i < (u.map (pj l)).length := by rw [List.length_map]; omega
          obtain ⟨g, rfl, hg1, hg2, ca0, ca1, ca2, ca3, fz⟩ := hown.cell4 (f := fun a : Jb => .int .i64 a.t) (g := fun a : Jb => a.s.val) (p := fun a : Jb => .int .i64 a.x) (q := fun a : Jb => .int .i64 a.y) (k := i + 1) hl1
          obtain ⟨g', hgg, _, _, cb0, cb1, cb2, cb3, _⟩ := hown.cell4 (f := fun a : Jb => .int .i64 a.t) (g := fun a : Jb => a.s.val) (p := fun a : Jb => .int .i64 a.x) (q := fun a : Jb => .int .i64 a.y) (k := i) hl2
          obtain rfl : g = g' := by simpa using hgg
          have e1 : (u.map (pj l))[i + 1] = pj l k := by rw [List.getElem_map, ← getD_at u _ (by omega) 0, hhere]
          have e2 : (u.map (pj l))[i] = pj l x := by rw [List.getElem_map, ← getD_at u _ (by omega) 0, hx]
          rw [e1] at ca0 ca1 ca2 ca3
          rw [e2] at cb0 cb1 cb2 cb3
          have hvk := val_due l k (by omega) (by rw [HN.out]; omega)
          have hvx := val_due l x hx0 (by rw [HN.out]; omega)
          have hbk := jAt_in (g := Jb.x) rfl HOK.out (k : Int).toNat
          have hbx := jAt_in (g := Jb.x) rfl HOK.out x.toNat
          have hdone : ¬ valZ (dueN l) x < valZ (dueN l) k → SortSt (dueN l) n (min (k + 1) n) u := fun h => by
            rw [Nat.min_eq_left (by omega)]
            exact in_done hin (.inr ⟨i, rfl, by rw [hx]; exact h⟩)
          have hswap : valZ (dueN l) x < valZ (dueN l) k → InSt (dueN l) n k i ((u.set (i + 1) x).set i k) := fun h => by
            have := in_swap hin (by rw [hx]; exact h)
            rwa [hx] at this
          obtain ⟨y, hy⟩ : ∃ y, y = pj l x := ⟨_, rfl⟩
          obtain ⟨z, hz⟩ : ∃ z, z = pj l k := ⟨_, rfl⟩
          rw [← hy] at cb0 cb1 cb2 cb3
          rw [← hz] at ca0 ca1 ca2 ca3
          rw [hvk, hvx, show jAt l x.toNat = y from hy.symm, show jAt l (k : Int).toNat = z from hz.symm] at hdone hswap
          rw [show jAt l x.toNat = y from hy.symm] at hbx
          rw [show jAt l (k : Int).toNat = z from hz.symm] at hbk
          have HCL := Lib.hid (due_cmp z y w2.drew (by omega))
          obtain ⟨dz, hdz⟩ : ∃ dz, dz = z.x - y.x := ⟨_, rfl⟩
          rw [← hdz] at HCL
          have hzs := hb.size
          have hq1 : ((i + 1 : Nat) : Int) - 1 = (i : Int) := by omega
          have hx1 : 0 ≤ (i : Int) + 1 := by omega
          have hx2 : (i : Int) + 1 < (n : Int) := by omega
          have hx3 : (i : Int) < (n : Int) := by omega
          have hwr : IntKind.i64.wrap (i : Int) = (i : Int) := wrap_sm (by omega) (by omega)
          have hgd : decide ((0 : Int) < (i : Int) + 1) = true := decide_eq_true (by omega)
          have HDN := Lib.hid hdone
          have HSW := Lib.hid hswap
          have HY := Lib.hid hy
          have HZ := Lib.hid hz
          have HE1 := Lib.hid e1
          have HE2 := Lib.hid e2
          have HDZ := Lib.hid hdz
          have HUL := Lib.hid hul
          clear hb hin hown hu hP hx hhere hgg hdone hswap e1 e2 hvk hvx hbk hbx hy hz fz hdz hul
          go_wp2_with fail
          refine region_plain 14 17 (fun w' => w' = w2.drew) (by kernel_rfl) rfl ?_
          refine anyC_reads (by kernel_rfl) [0, 1, 2, 3, 4, 5, 6, 7, 8, 9, 10, 11, 12, 13] ?opc ?ohc 3 _ _ _ (by kernel_rfl) ?okc
          case ohc => (simp only [List.filterMap_cons, List.filterMap_nil, List.getElem?_toArray, List.getElem?_cons_zero, List.getElem?_cons_succ]; try rfl)
          repeat (
            refine readC_step (v := ?_) rfl (fun w' hw' => ?_) ?_
            rotate_left
            focus (subst hw'; go_simp; try with_reducible rfl)
            go_simp)
          refine readC_nil ?_
          refine anyC_one (i := 14) (by kernel_rfl) rfl rfl (.inr rfl) ?_
          go_simp
          refine HCL.out.mono ?_
          clear HCL ca0 ca1 ca2 ca3 cb0 cb1 cb2 cb3
          rintro e w3 ⟨rfl, hb3⟩
          have hb3' : Below B w w3 := HB.out.drew.trans (hb3.mono (show B ≤ w2.drew.heap.size from Nat.le_trans hB hzs))
          have hown := HO.out.drew.below hb3 (Nat.le_refl _)
          obtain ⟨g', hgg, hg1, hg2, ca0, ca1, ca2, ca3, fz⟩ := hown.cell4 (f := fun a : Jb => .int .i64 a.t) (g := fun a : Jb => a.s.val) (p := fun a : Jb => .int .i64 a.x) (q := fun a : Jb => .int .i64 a.y) (k := i + 1) hl1
          obtain rfl : g = g' := by simpa using hgg
          obtain ⟨g', hgg, _, _, cb0, cb1, cb2, cb3, _⟩ := hown.cell4 (f := fun a : Jb => .int .i64 a.t) (g := fun a : Jb => a.s.val) (p := fun a : Jb => .int .i64 a.x) (q := fun a : Jb => .int .i64 a.y) (k := i) hl2
          obtain rfl : g = g' := by simpa using hgg
          rw [HE1.out, ← HZ.out] at ca0 ca1 ca2 ca3
          rw [HE2.out, ← HY.out] at cb0 cb1 cb2 cb3
          have hput := (hown.put4 (f := fun a : Jb => .int .i64 a.t) (g := fun a : Jb => a.s.val) (p := fun a : Jb => .int .i64 a.x) (q := fun a : Jb => .int .i64 a.y) (k := i + 1) (x := y) hl1).put4 (f := fun a : Jb => .int .i64 a.t) (g := fun a : Jb => a.s.val) (p := fun a : Jb => .int .i64 a.x) (q := fun a : Jb => .int .i64 a.y) (k := i) (x := z) (by rw [List.length_set]; exact hl2)
          have fz0 := fz ((i + 1) * 4)
          have fz1 := fz ((i + 1) * 4 + 1)
          have fz2 := fz ((i + 1) * 4 + 2)
          have fz3 := fz ((i + 1) * 4 + 3)
          have fy0 := fz (i * 4)
          have fy1 := fz (i * 4 + 1)
          have fy2 := fz (i * 4 + 2)
          have fy3 := fz (i * 4 + 3)
          have HPUT := Lib.hid hput
          have HB3 := Lib.hid hb3'
          have HO3 := Lib.hid hown
          clear hb3 hb3' hown hgg fz hput
          refine anyC_one (i := 15) (by kernel_rfl) rfl rfl (.inl rfl) ?_
          go_simp
          refine anyC_one (i := 16) (by kernel_rfl) rfl rfl (.inl rfl) ?_
          go_simp
          refine anyC_end (by kernel_rfl) (.inl rfl) ?_
          by_cases hc : dz < 0
          · have HIN2 := Lib.hid (HSW.out (by have := HDZ.out; omega))
            go_wp2_with fail
            go_region
            all_goals
              go_wp2_with fail
              go_roundw
              case rel =>
                have e : ((u.map (pj l)).set (i + 1) y).set i z = ((u.set (i + 1) x).set i (k : Int)).map (pj l) := by rw [HY.out, HZ.out, map_set_pj, map_set_pj]
                exact ⟨i, _, by omega, by go_num, (below_set4 (below_set4 HB3.out hg1 _ _ _ _) hg1 _ _ _ _).drew, HIN2.out, by rw [← e]; exact HPUT.out.drew⟩
              case measure => simp [intOf] <;> omega
          · have HD := Lib.hid (HDN.out (by have := HDZ.out; omega))
            go_wp2_with fail
            go_roundw
            case rel => exact ⟨k + 1, u, by omega, by omega, by go_num, HB3.out, HD.out, HO3.out⟩
            case measure => simp [intOf]; omega
    · have hmin : min k n = n := by omega
      rw [hmin] at hst
      have HS2 := Lib.hid hst
      clear hb hst hown
      go_wp2_with fail
      go_end0
      exact ⟨⟨_, rfl⟩, HB.out, u, HS2.out, HO.out⟩
set_option maxRecDepth 100000 in
theorem sort_jobs (l : List Jb) (A : Option Addr) (n cp B : Nat) (w : World) (hn : l.length = n) (h8 : n ≤ 16) (hok : l.any (badJ Jb.x) = false) (ho : Own w B 77 4 Jb.cells A cp l) (hB : B ≤ w.heap.size) :
    Calls Try.prog 35 #[.slice A n cp, .func (.func 36) #[] #[]] w fun e w' => (∃ v, e = .returned v) ∧ Below B w w' ∧ Own w' B 77 4 Jb.cells A cp ((ordJ l).map (pj l)) := by
  have hl0 : l = (restL n 0).map (pj l) := by
    unfold restL
    rw [Nat.sub_zero, List.map_map]
    refine List.ext_getElem (by simp [hn]) fun i h1 h2 => ?_
    rw [List.getElem_map, List.getElem_range]
    show l[i] = jAt l ((0 + i : Nat) : Int).toNat
    rw [Nat.zero_add, Int.toNat_natCast]
    unfold jAt
    rw [getD_at l i h1]
  have HI := Lib.hid (insertion_jobs l A n cp B w hn h8 hok (by rw [← hl0]; exact ho) hB)
  have HN := Lib.hid hn
  clear ho hok hl0 hn
  have HS : Hid (Calls Try.prog 71 #[.slice A n cp, .int .i64 n, .func (.func 36) #[] #[]] w fun e w' => (∃ v, e = .returned v) ∧ Below B w w' ∧ ∃ u, SortSt (dueN l) n n u ∧ Own w' B 77 4 Jb.cells A cp (u.map (pj l))) := Lib.hid (by
    go_enter Try.func71, Try.ntmps71
    go_wp2_with fail
    go_loop [7, 8] (fun a s => a = .int .i64 0 ∧ s = .int .i64 20) (fun _ _ => 0)
    case atStart => exact ⟨rfl, rfl⟩
    case round =>
      obtain ⟨rfl, rfl⟩ := hrel
      go_wp2_with fail
      refine HI.out.mono ?_
      rintro e w' ⟨⟨v, rfl⟩, hb, hu⟩
      have HB := Lib.hid hb
      have HU := Lib.hid hu
      clear hb hu
      go_wp2_with fail
      go_loop [6] (fun s => s = .int .i64 20) (fun _ => 0)
      case atStart => rfl
      case round =>
        subst hrel
        go_wp2_with fail
        go_end0
        exact ⟨⟨_, rfl⟩, HB.out, HU.out⟩)
  go_enter Try.func35, Try.ntmps35
  go_wp2_with fail
  refine HS.out.mono ?_
  rintro e w' ⟨⟨v, rfl⟩, hb, u, hst, hu⟩
  obtain ⟨rfl, _⟩ := sort_end (by rw [dueN_length]; exact HN.out) hst
  have e : fallsTo (dueN l) n = ordJ l := by unfold ordJ; rw [HN.out]
  rw [e] at hu
  have HB := Lib.hid hb
  have HU := Lib.hid hu
  clear hb hu hst e
  go_wp2_with fail
  go_end0
  exact ⟨⟨_, rfl⟩, HB.out, HU.out⟩
set_option maxRecDepth 100000 in
theorem Clone_jobs (A : Option Addr) (n c : Nat) (l : List Jb) (w : World) (hl : l.length = n) (hn : n ≤ 65536) (hr : Els w w.heap.size 4 Jb.cells A l) :
    Calls Try.prog 34 #[.slice A n c] w fun e w' => ∃ A' cap, e = .returned (.slice A' n cap) ∧ Below w.heap.size w w' ∧ Own w' w.heap.size 77 4 Jb.cells A' cap l := by
  have HL := Lib.hid hl
  have HR := Lib.hid hr
  clear hl hr
  cases A with
  | none =>
    have h0 : n = 0 := by
      by_cases h : 0 < l.length
      · obtain ⟨b, off, he, _⟩ := HR.out h
        cases he
      · have := HL.out; omega
    subst h0
    have hnil : l = [] := List.length_eq_zero_iff.1 HL.out
    subst hnil
    clear HR HL
    have hq : ∀ W : World, (binOp .eql 22 (.slice none 0 c) (.slice none 0 0)).run Try.prog W = .ok (.bool true) W := fun W => Lib.run_eql_slice_nil W 22 77 none 0 c 0 0 Try.underlying22
    go_enter Try.func34, Try.ntmps34
    go_wp2_with fail
    go_ret
    exact ⟨none, 0, rfl, Below.refl _ _, Own.nil _ _ _ (fun _ => rfl)⟩
  | some p =>
    have HO2 := Lib.hid (Own.empty w 77 4 Jb.cells (fun _ => rfl))
    have hb0 := (Below.refl w.heap.size w).alloc (Nat.le_refl _) (.cells #[] 77)
    have HB0 := Lib.hid hb0
    have HE2 := Lib.hid (HR.out.below hb0)
    clear hb0
    have hq : ∀ W : World, (binOp .eql 22 (.slice (some p) n c) (.slice none 0 0)).run Try.prog W = .ok (.bool false) W := fun W => Lib.run_eql_slice_nil W 22 77 (some p) n c 0 0 Try.underlying22
    go_enter Try.func34, Try.ntmps34
    go_wp2_with (at_builtin; go_loud (refine wpList_append_els rfl _ _ _ rfl w.heap.size 4 77 (.agg #[.int .i64 0, .slice none 0 0, .int .i64 0, .int .i64 0]) 48 Try.underlying22 (by kernel_rfl) rfl (by omega) Jb.cells _ (some ⟨w.heap.size, 0, none⟩) 0 0 [] rfl rfl HO2.out _ _ _ l HL.out rfl _ HE2.out (one_flat (fun a u hu => by simp at hu; rcases hu with rfl | rfl | rfl | rfl <;> rfl) _) (by unfold maxLen; omega) (by omega) (by rw [size_alloc']; exact Nat.le_succ _) ?_; intro A2 cap2 w3 hown2 hgrow2 hloc2))
    rw [List.nil_append] at hown2
    have HO := Lib.hid hown2
    have HB := Lib.hid (HB0.out.grown hgrow2 (by rw [size_alloc']; omega) (fun g hg => by simp [blkOf] at hg; omega))
    clear hown2 hgrow2 hloc2
    go_ret
    exact ⟨A2, cap2, rfl, HB.out, HO.out⟩
end Go.Proofs.Ytokmialpclcodaa
