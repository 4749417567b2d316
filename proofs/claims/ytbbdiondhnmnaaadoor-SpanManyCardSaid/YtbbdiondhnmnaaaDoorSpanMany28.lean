/- span.trees: how many trees a part has. Conditions: the part hangs together; the matrix and the part lie in memory. -/
import Derived.Test.YtbbdiondhnmnaaaDoorSpanMany22
import Derived.Test.YtbbdiondhnmnaaaDoorSpanMany26
import Derived.Test.YtbbdiondhnmnaaaDoorSpanMany27
import Derived.IntWalk
namespace Go.Proofs.YtbbdiondhnmnaaaDoor
open Go.RowKit Go.Shelf

theorem wrp {x : Int} (h : -9000000000000000000 ≤ x ∧ x ≤ 9000000000000000000) : IntKind.i64.wrap x = x := IntWalk.i64_in _ (by omega)
/-- The part in memory. -/
theorem part_at {w : World} {B g c : Nat} {P : List Nat} (h : Own w B 3 1 icell (some ⟨g, 0, none⟩) c (P.map fun j : Nat => (j : Int))) {a : Nat} (ha : a < P.length) : w.cell? ⟨g, a, none⟩ = some (.int .i64 (pa P a)) := by
  obtain ⟨g', hg, _, _, hc, _⟩ := h.cell1 (f := fun x : Int => .int .i64 x) (k := a) (by simpa using ha)
  obtain rfl : g = g' := by simpa using hg
  rw [hc, List.getElem_map, pa_at ha]
theorem mul_b {x y : Int} (hx : -43046721 ≤ x ∧ x ≤ 43046721) (hy : -43046721 ≤ y ∧ y ≤ 43046721) : -1853020188851841 ≤ x * y ∧ x * y ≤ 1853020188851841 := by
  have h1 := Int.mul_nonneg (show 0 ≤ 43046721 - x by omega) (show 0 ≤ 43046721 - y by omega)
  have h2 := Int.mul_nonneg (show 0 ≤ 43046721 + x by omega) (show 0 ≤ 43046721 + y by omega)
  have h3 := Int.mul_nonneg (show 0 ≤ 43046721 - x by omega) (show 0 ≤ 43046721 + y by omega)
  have h4 := Int.mul_nonneg (show 0 ≤ 43046721 + x by omega) (show 0 ≤ 43046721 - y by omega)
  grind
set_option maxRecDepth 100000 in
set_option maxHeartbeats 2000000 in
theorem span_trees (w : Nat → Nat → Int) (X : List Nat) (r n G0 Sm Sp g c : Nat) (q0 : Nat → Nat) (W : World) (hp : POk w X r) (hn : ∀ x ∈ X ++ [r], x < n) (hn10 : n ≤ 10)
    (hm : Tn W Sm G0 n n n q0 w) (hA : Own W Sp 3 1 icell (some ⟨g, 0, none⟩) c ((X ++ [r]).map fun j : Nat => (j : Int))) :
    Calls Tryd.prog 10 #[.slice (some ⟨G0, 0, none⟩) n n, .slice (some ⟨g, 0, none⟩) (X.length + 1 : Nat) c] W fun e w' => e = .returned (.int .i64 (D w (X ++ [r]))) ∧ Below W.heap.size W w' := by
  obtain ⟨S, hS⟩ : ∃ S, S = W.heap.size := ⟨_, rfl⟩
  obtain ⟨K, hK⟩ : ∃ K, K = X.length := ⟨_, rfl⟩
  obtain ⟨K1, hK1⟩ : ∃ K1, K1 = X.length + 1 := ⟨_, rfl⟩
  have hPl : (X ++ [r]).length = K1 := by rw [List.length_append, List.length_singleton, hK1]
  have hK9 : K ≤ 9 := by rw [hK]; exact hp.len
  have hKK : K1 ≤ K + 1 := by omega
  have hKK2 : K < K1 := by omega
  have hw1 : IntKind.i64.wrap ((K1 : Int) - 1) = (K : Int) := by rw [wrp (by omega)]; omega
  have hPn : ∀ a, a < K1 → pa (X ++ [r]) a < n := fun a ha => by
    rw [pa_at (by rw [hPl]; exact ha)]
    exact hn _ (List.getElem_mem _)
  rw [← hK1, ← hS]
  have HP := Lib.hid hp
  have HM := Lib.hid hm
  have HA := Lib.hid hA
  have HS := Lib.hid hS
  have HK := Lib.hid hK
  have HPL := Lib.hid hPl
  have HPN := Lib.hid hPn
  have hS0 : G0 < S := by rw [hS]; exact hm.gt.2
  clear hp hm hA hK hK1 hn hPl hPn
  go_enter Tryd.func10, Tryd.ntmps10
  go_wp2_with (at_make; go_loud
     (refine wpList_make1 rfl _ _ _ rfl S 32 24 (fun v : Value => v) (.slice none 0 0) Tryd.underlying31 (by kernel_rfl) rfl _ .i64 .i64 K rfl rfl (by omega) (by unfold maxLen; omega) (by omega) ?_
      intro v3 hown3 hgrow3))
  have hT3 : Tn v3 S S K K 0 (fun _ => 0) (eM w X r 0) := Tn.made (by rw [hS] at hown3 ⊢; exact hown3)
  have hB3 : Below S W v3 := by rw [hS]; exact (Below.refl _ W).grown hgrow3 (Nat.le_refl _) (fun g hg => by cases hg)
  rw [← hS]
  have HT3 := Lib.hid hT3
  have HB3 := Lib.hid hB3
  clear hT3 hB3 hown3 hgrow3 hS
  obtain ⟨G, hG⟩ : ∃ G, G = S := ⟨_, rfl⟩
  have HGS : S ≤ G := by omega
  rw [show Tn v3 S S K K 0 (fun _ => 0) (eM w X r 0) = Tn v3 S G K K 0 (fun _ => 0) (eM w X r 0) by rw [hG]] at HT3
  rw [show (⟨S, 0, none⟩ : Addr) = ⟨G, 0, none⟩ by rw [hG]]
  clear hG
  go_loopw [21] (fun s21 wr => ∃ (i : Nat) (q : Nat → Nat), i ≤ K ∧ s21 = .int .i64 i ∧ Below S W wr ∧ Tn wr S G K K i q (eM w X r 0)) (fun s21 _ => K - (intOf s21).toNat)
  case atStart => exact ⟨0, _, Nat.zero_le _, rfl, HB3.out, HT3.out⟩
  case round =>
    clear HB3 HT3
    rename World => wr
    obtain ⟨i, q, hi, rfl, hb, ht⟩ := hrel
    have hz := hb.size
    rw [← HS.out] at hz
    have HB := Lib.hid hb
    have HT := Lib.hid ht
    clear hb ht
    by_cases hlt : i < K
    · go_wp2_with (at_make; go_loud (
        refine wpList_make1 rfl _ _ _ rfl S 2 8 (fun x : Int => .int .i64 x) 0 Tryd.underlying32 (by kernel_rfl) rfl _ .i64 .i64 K rfl rfl (by omega) (by unfold maxLen; omega) hz ?_
        intro v5 hown5 hgrow5
        have hT5 := HT.out.kept hgrow5
        obtain ⟨⟨z0, y0⟩, f0⟩ := hT5.slot hlt))
      have hB5 := HB.out.grown hgrow5 (by omega) (fun g hg => by cases hg)
      obtain ⟨R, hR⟩ : ∃ R, R = wr.heap.size := ⟨_, rfl⟩
      have hqR : ∀ j, j < i → q j ≠ R := fun j hj => by have := (HT.out.qlt hj).2; omega
      have hGR : G ≠ R := by have := HT.out.gt; omega
      rw [← hR] at hown5 ⊢
      have hT6 := (hT5.congr (M' := fT w X r i (f1 w (X ++ [r]) i 0)) (fun a b ha _ => by unfold fT; rw [if_pos ha])).put hlt hown5 (by
        apply List.ext_getElem
        · simp
        · intro b h1 h2
          rw [mapR_get, List.getElem_replicate]
          unfold fT
          rw [if_neg (by omega), f1_0]) hqR
      have hB6 := hB5.setCell (p := ⟨G, i, none⟩) (show S ≤ G by omega) (.slice (some ⟨R, 0, none⟩) K K)
      obtain ⟨V6, hV6⟩ : ∃ V6, V6 = v5.setCell ⟨G, i, none⟩ (.slice (some ⟨R, 0, none⟩) K K) := ⟨_, rfl⟩
      obtain ⟨q1, hq1⟩ : ∃ q1 : Nat → Nat, q1 = fun j => if j = i then R else q j := ⟨_, rfl⟩
      rw [← hV6] at hT6 hB6 ⊢
      rw [← hq1] at hT6
      have HT6 := Lib.hid hT6
      have HB6 := Lib.hid hB6
      clear hT6 hB6 hV6 hq1 hqR hT5 hB5 hown5 hgrow5 y0 f0 hR HB HT
      go_wp2_with fail
      go_loopw [31] (fun s31 w2 => ∃ t : Nat, t ≤ K1 ∧ s31 = .int .i64 t ∧ Below S W w2 ∧ Tn w2 S G K K (i + 1) q1 (fT w X r i (f1 w (X ++ [r]) i t))) (fun s31 _ => K1 - (intOf s31).toNat)
      case atStart => exact ⟨0, Nat.zero_le _, rfl, HB6.out, HT6.out⟩
      case round =>
        clear HB6 HT6
        rename World => w2
        obtain ⟨t, htK, rfl, hb, ht⟩ := hrel
        have HB := Lib.hid hb
        have HT := Lib.hid ht
        by_cases hlt2 : t < K1
        · have hi1 : i < K1 := by omega
          obtain ⟨u, hu⟩ : ∃ u, u = pa (X ++ [r]) i := ⟨_, rfl⟩
          obtain ⟨x, hx⟩ : ∃ x, x = pa (X ++ [r]) t := ⟨_, rfl⟩
          have hun : u < n := by rw [hu]; exact HPN.out i (by omega)
          have hxn : x < n := by rw [hx]; exact HPN.out t hlt2
          have hA2 := HA.out.below (hb.mono (show W.heap.size ≤ S by rw [HS.out]; exact Nat.le_refl _)) (Nat.le_refl _)
          have a1 := part_at hA2 (a := i) (by rw [HPL.out]; omega)
          have a2 := part_at hA2 (a := t) (by rw [HPL.out]; exact hlt2)
          have hM2 := HM.out.below (hb.mono (show W.heap.size ≤ S by rw [HS.out]; exact Nat.le_refl _))
          obtain ⟨b1, b2, _⟩ := hM2.at_ hun (Nat.le_refl _) hxn
          obtain ⟨d1, d2, fz⟩ := ht.at_ (i := i) (j := i) (by omega) (by omega) hlt
          obtain ⟨v, hv⟩ : ∃ v, v = f1 w (X ++ [r]) i t i := ⟨_, rfl⟩
          have hfv : fT w X r i (f1 w (X ++ [r]) i t) i i = v := by unfold fT; rw [if_neg (by omega), hv]
          obtain ⟨y, hy⟩ : ∃ y, y = w u x := ⟨_, rfl⟩
          rw [hfv] at d2
          rw [← hu] at a1
          rw [← hx] at a2
          rw [← hy] at b2
          have hv0 := f1_in HP.out i t i
          rw [← hv] at hv0
          have hy0 := HP.out.nn u x
          have hy1 := HP.out.one u x
          rw [← hy] at hy0 hy1
          have hwr : IntKind.i64.wrap (v + y) = v + y := wrp (by omega)
          have hput := ht.cellPut (i := i) (j := i) (M' := fT w X r i (f1 w (X ++ [r]) i (t + 1))) (by omega) hlt (v + y) (fun a b ha hb => by
            unfold fT
            by_cases e : a < i
            · rw [if_pos e, if_pos e, if_neg (by omega)]
            · rw [if_neg e, if_neg e, ← f1_put (by rw [HPL.out]; exact hlt2)]
              obtain rfl : a = i := by omega
              by_cases e2 : b = a
              · rw [if_pos ⟨rfl, e2⟩, if_pos e2, hv, hy, hu, hx]
              · rw [if_neg (fun h => e2 h.2), if_neg e2])
          obtain ⟨qi, hqi⟩ : ∃ qi, qi = q1 i := ⟨_, rfl⟩
          have hqS : S ≤ qi := by rw [hqi]; exact (ht.qlt (by omega)).1
          rw [← hqi] at d1 d2 fz hput
          have HPUT := Lib.hid hput
          clear hput hfv hv hy hu hx hA2 hM2 hb ht hqi hv0 hy0 hy1
          go_wp2_with fail
          refine region_plain 19 20 (fun w' => w' = w2.drew) (by kernel_rfl) rfl ?_
          refine anyC_reads (by kernel_rfl) [0, 1, 2, 3, 4, 5, 6, 7, 8, 9, 10, 11, 12, 13, 14, 15, 16, 17, 18] ?opa ?oha 1 _ _ _ (by kernel_rfl) ?oka
          case oha => (simp only [List.filterMap_cons, List.filterMap_nil, List.getElem?_toArray, List.getElem?_cons_zero, List.getElem?_cons_succ]; try rfl)
          repeat (
            refine readC_step (v := ?_) rfl (fun w' hw' => ?_) ?_
            rotate_left
            focus (subst hw'; go_simp; try with_reducible rfl)
            go_simp)
          refine readC_nil ?_
          refine anyC_one (i := 19) (by kernel_rfl) rfl rfl (.inr rfl) ?_
          go_simp
          refine anyC_end (by kernel_rfl) (.inl (by kernel_rfl)) ?_
          go_wp2_with fail
          go_roundw
          case rel => exact ⟨t + 1, by omega, by go_num, (HB.out.setCell (p := ⟨qi, i, none⟩) hqS _).drew, HPUT.out.drew⟩
          case measure => (simp [intOf]; omega)
        · obtain rfl : K1 = t := by omega
          have HT2 : Hid (Tn w2 S G K K (i + 1) q1 (fT w X r i (f2 w (X ++ [r]) i 0))) := Lib.hid (ht.congr fun a b _ _ => by
            unfold fT
            rw [← HPL.out, f1_end])
          clear hb ht HT
          go_wp2_with fail
          go_loopw [56] (fun s56 w2 => ∃ j : Nat, j ≤ K ∧ s56 = .int .i64 j ∧ Below S W w2 ∧ Tn w2 S G K K (i + 1) q1 (fT w X r i (f2 w (X ++ [r]) i j))) (fun s56 _ => K - (intOf s56).toNat)
          case atStart => exact ⟨0, Nat.zero_le _, rfl, HB.out, HT2.out⟩
          case round =>
            clear HB HT2
            rename World => w2
            obtain ⟨j, hjK, rfl, hb, ht⟩ := hrel
            have HB := Lib.hid hb
            have HT := Lib.hid ht
            by_cases hlt2 : j < K
            · obtain ⟨u, hu⟩ : ∃ u, u = pa (X ++ [r]) i := ⟨_, rfl⟩
              obtain ⟨x, hx⟩ : ∃ x, x = pa (X ++ [r]) j := ⟨_, rfl⟩
              have hi1 : i < K1 := by omega
              have hj1 : j < K1 := by omega
              have hun : u < n := by rw [hu]; exact HPN.out i (by omega)
              have hxn : x < n := by rw [hx]; exact HPN.out j (by omega)
              have hA2 := HA.out.below (hb.mono (show W.heap.size ≤ S by rw [HS.out]; exact Nat.le_refl _)) (Nat.le_refl _)
              have a1 := part_at hA2 (a := i) (by rw [HPL.out]; omega)
              have a2 := part_at hA2 (a := j) (by rw [HPL.out]; omega)
              have hM2 := HM.out.below (hb.mono (show W.heap.size ≤ S by rw [HS.out]; exact Nat.le_refl _))
              obtain ⟨b1, b2, _⟩ := hM2.at_ hun (Nat.le_refl _) hxn
              obtain ⟨d1, d2, fz⟩ := ht.at_ (i := i) (j := j) (by omega) (by omega) hlt2
              obtain ⟨v, hv⟩ : ∃ v, v = f2 w (X ++ [r]) i j j := ⟨_, rfl⟩
              have hfv : fT w X r i (f2 w (X ++ [r]) i j) i j = v := by unfold fT; rw [if_neg (by omega), hv]
              obtain ⟨y, hy⟩ : ∃ y, y = w u x := ⟨_, rfl⟩
              rw [hfv] at d2
              rw [← hu] at a1
              rw [← hx] at a2
              rw [← hy] at b2
              have hv0 := f2_in HP.out i j j
              rw [← hv] at hv0
              have hy0 := HP.out.nn u x
              have hy1 := HP.out.one u x
              rw [← hy] at hy0 hy1
              have hwr : IntKind.i64.wrap (v - y) = v - y := wrp (by omega)
              have hput := ht.cellPut (i := i) (j := j) (M' := fT w X r i (f2 w (X ++ [r]) i (j + 1))) (by omega) hlt2 (v - y) (fun a b ha hb => by
                unfold fT
                by_cases e : a < i
                · rw [if_pos e, if_pos e, if_neg (by omega)]
                · rw [if_neg e, if_neg e, ← f2_put]
                  obtain rfl : a = i := by omega
                  by_cases e2 : b = j
                  · rw [if_pos ⟨rfl, e2⟩, if_pos e2, hv, hy, hu, hx]
                  · rw [if_neg (fun h => e2 h.2), if_neg e2])
              obtain ⟨qi, hqi⟩ : ∃ qi, qi = q1 i := ⟨_, rfl⟩
              have hqS : S ≤ qi := by rw [hqi]; exact (ht.qlt (by omega)).1
              rw [← hqi] at d1 d2 fz hput
              have HPUT := Lib.hid hput
              clear hput hfv hv hy hu hx hA2 hM2 hb ht hqi hv0 hy0 hy1
              go_wp2_with fail
              refine region_plain 22 23 (fun w' => w' = w2.drew) (by kernel_rfl) rfl ?_
              refine anyC_reads (by kernel_rfl) [0, 1, 2, 3, 4, 5, 6, 7, 8, 9, 10, 11, 12, 13, 14, 15, 16, 17, 18, 19, 20, 21] ?opb ?ohb 1 _ _ _ (by kernel_rfl) ?okb
              case ohb => (simp only [List.filterMap_cons, List.filterMap_nil, List.getElem?_toArray, List.getElem?_cons_zero, List.getElem?_cons_succ]; try rfl)
              repeat (
                refine readC_step (v := ?_) rfl (fun w' hw' => ?_) ?_
                rotate_left
                focus (subst hw'; go_simp; try with_reducible rfl)
                go_simp)
              refine readC_nil ?_
              refine anyC_one (i := 22) (by kernel_rfl) rfl rfl (.inr rfl) ?_
              go_simp
              refine anyC_end (by kernel_rfl) (.inl (by kernel_rfl)) ?_
              go_wp2_with fail
              go_roundw
              case rel => exact ⟨j + 1, by omega, by go_num, (HB.out.setCell (p := ⟨qi, j, none⟩) hqS _).drew, HPUT.out.drew⟩
              case measure => (simp [intOf]; omega)
            · obtain rfl : K = j := by omega
              have HT2 : Hid (Tn w2 S G K K (i + 1) q1 (eM w X r 0)) := Lib.hid (ht.congr fun a b ha hb => by
                have h := fT_row (w := w) (X := X) (r := r) (i := i) (a := a) (b := b) (by rw [← HK.out]; exact hb) HP.out (by omega) (by rw [← HK.out]; exact hlt) (fun _ => 0)
                rw [← HK.out] at h
                rw [h]
                unfold fT
                rw [if_pos ha])
              clear hb ht HT
              go_wp2_with fail
              go_roundw
              case rel => exact ⟨i + 1, q1, by omega, by go_num, HB.out, HT2.out⟩
              case measure => (simp [intOf]; omega)
    · obtain rfl : K = i := by omega
      have HTV : Hid (Tn wr S G K K K q (eV w X r 0)) := Lib.hid (HT.out.congr fun a b _ _ => by unfold eV; rw [Nat.zero_min])
      clear HT hlt
      go_wp2_with fail
      go_loopw [84, 11] (fun s84 s11 w2 => ∃ s : Nat, s ≤ K ∧ s84 = .int .i64 s ∧ s11 = .int .i64 (eL w X r s) ∧ Below S W w2 ∧ Tn w2 S G K K K q (eV w X r s)) (fun s84 _ _ => K - (intOf s84).toNat)
      case atStart => exact ⟨0, Nat.zero_le _, rfl, by rw [eL_0], HB.out, HTV.out⟩
      case round =>
        clear HB HTV
        rename World => w2
        obtain ⟨s, hsK, rfl, rfl, hb, ht⟩ := hrel
        have HB := Lib.hid hb
        by_cases hlt : s < K
        · obtain ⟨s1, hs1⟩ : ∃ s1, s1 = s + 1 := ⟨_, rfl⟩
          have hws : IntKind.i64.wrap ((s : Int) + 1) = (s1 : Int) := by rw [wrp (by omega)]; omega
          have hs1K : s1 ≤ K := by omega
          have hss : s < s1 := by omega
          have hse : s1 ≤ s + 1 := by omega
          obtain ⟨la, hla⟩ : ∃ la, la = eL w X r s := ⟨_, rfl⟩
          have hne : la ≠ 0 := by rw [hla]; exact HP.out.ne s
          have HT : Hid (Tn w2 S G K K K q (eU w X r s s1 s1)) := Lib.hid (by rw [hs1]; exact ht.congr fun a b _ _ => (eU_start s a b).symm)
          have HLA := Lib.hid hla
          have HS1 := Lib.hid hs1
          rw [← hla]
          clear hla hs1 ht hb
          go_wp2_with fail
          go_loopw [13] (fun s13 w3 => ∃ i : Nat, s < i ∧ i ≤ K ∧ s13 = .int .i64 i ∧ Below S W w3 ∧ Tn w3 S G K K K q (eU w X r s i s1)) (fun s13 _ => K - (intOf s13).toNat)
          case atStart => exact ⟨s1, hss, hs1K, rfl, HB.out, HT.out⟩
          case round =>
            clear HB HT
            rename World => w3
            obtain ⟨i, hsi, hiK, rfl, hb, ht⟩ := hrel
            have HB := Lib.hid hb
            have HT := Lib.hid ht
            by_cases hlt2 : i < K
            · clear hb ht
              go_wp2_with fail
              go_loopw [14] (fun s14 w4 => ∃ j : Nat, s < j ∧ j ≤ K ∧ s14 = .int .i64 j ∧ Below S W w4 ∧ Tn w4 S G K K K q (eU w X r s i j)) (fun s14 _ => K - (intOf s14).toNat)
              case atStart => exact ⟨s1, hss, hs1K, rfl, HB.out, HT.out⟩
              case round =>
                clear HB HT
                rename World => w4
                obtain ⟨j, hsj, hjK, rfl, hb, ht⟩ := hrel
                have HB := Lib.hid hb
                have HT := Lib.hid ht
                by_cases hlt3 : j < K
                · obtain ⟨d1, d2, fz⟩ := ht.at_ (i := i) (j := j) hlt2 (Nat.le_refl _) hlt3
                  obtain ⟨d3, d4, -⟩ := ht.at_ (i := s) (j := s) hlt (Nat.le_refl _) hlt
                  obtain ⟨-, d5, -⟩ := ht.at_ (i := i) (j := s) hlt2 (Nat.le_refl _) hlt
                  obtain ⟨-, d6, -⟩ := ht.at_ (i := s) (j := j) hlt (Nat.le_refl _) hlt3
                  rw [eU_ij hsi hsj] at d2
                  rw [eU_ss hsi] at d4
                  rw [eU_is hsi hsj] at d5
                  rw [eU_sj hsi hsj] at d6
                  have hXs : s < X.length := by rw [← HK.out]; exact hlt
                  have hXi : i < X.length := by rw [← HK.out]; exact hlt2
                  have hXj : j < X.length := by rw [← HK.out]; exact hlt3
                  have b1 := HP.out.small (s := s) (a := i) (b := j) (by omega) (by omega) hXi (by omega) hXj
                  have b2 := HP.out.small (s := s) (a := s) (b := s) (by omega) (by omega) hXs (by omega) hXs
                  have b3 := HP.out.small (s := s) (a := i) (b := s) (by omega) (by omega) hXi (by omega) hXs
                  have b4 := HP.out.small (s := s) (a := s) (b := j) (by omega) (by omega) hXs (by omega) hXj
                  have hst := HP.out.step hXs i j
                  rw [← HLA.out] at hst
                  obtain ⟨e1, he1⟩ : ∃ e1, e1 = eM w X r s i j := ⟨_, rfl⟩
                  obtain ⟨e2, he2⟩ : ∃ e2, e2 = eM w X r s s s := ⟨_, rfl⟩
                  obtain ⟨e3, he3⟩ : ∃ e3, e3 = eM w X r s i s := ⟨_, rfl⟩
                  obtain ⟨e4, he4⟩ : ∃ e4, e4 = eM w X r s s j := ⟨_, rfl⟩
                  obtain ⟨e5, he5⟩ : ∃ e5, e5 = eM w X r (s + 1) i j := ⟨_, rfl⟩
                  have b5 := HP.out.size (s := s + 1) (a := i) (b := j) hsi hXi hsj hXj
                  have n5 : (9 : Int) ^ (s + 1 + 1) ≤ 387420489 := by
                    have h9 : ∀ s : Fin 8, (9 : Int) ^ (s.val + 1 + 1) ≤ 387420489 := by decide
                    exact h9 ⟨s, by omega⟩
                  have hput := ht.cellPut (i := i) (j := j) (M' := eU w X r s i (j + 1)) hlt2 hlt3 e5 (fun a b _ _ => by rw [he5]; exact eU_put hsi hsj)
                  rw [← he5] at hst b5
                  rw [← he1, ← he2, ← he3, ← he4] at hst
                  rw [← he1] at d2 b1
                  rw [← he2] at d4 b2
                  rw [← he3] at d5 b3
                  rw [← he4] at d6 b4
                  obtain ⟨m1, hm1⟩ : ∃ m1, m1 = e1 * e2 := ⟨_, rfl⟩
                  obtain ⟨m2, hm2⟩ : ∃ m2, m2 = e3 * e4 := ⟨_, rfl⟩
                  have c1 := mul_b b1 b2
                  have c2 := mul_b b3 b4
                  rw [← hm1] at c1
                  rw [← hm2] at c2
                  rw [← hm1, ← hm2] at hst
                  have w1 : IntKind.i64.wrap (e1 * e2) = m1 := by rw [← hm1]; exact wrp (by omega)
                  have w2' : IntKind.i64.wrap (e3 * e4) = m2 := by rw [← hm2]; exact wrp (by omega)
                  have w3' : IntKind.i64.wrap (m1 - m2) = m1 - m2 := wrp (by omega)
                  have w4' : IntKind.i64.wrap ((m1 - m2).tdiv la) = e5 := by rw [hst]; exact wrp (by omega)
                  obtain ⟨qi, hqi⟩ : ∃ qi, qi = q i := ⟨_, rfl⟩
                  obtain ⟨qs, hqs⟩ : ∃ qs, qs = q s := ⟨_, rfl⟩
                  have hqS : S ≤ qi := by rw [hqi]; exact (ht.qlt hlt2).1
                  rw [← hqi] at d1 d2 d5 fz hput
                  rw [← hqs] at d3 d4 d6
                  have HPUT := Lib.hid hput
                  clear hput hst b1 b2 b3 b4 b5 n5 c1 c2 hm1 hm2 he1 he2 he3 he4 he5 hXs hXi hXj hb ht hqi hqs
                  go_wp2_with fail
                  refine region_plain 39 40 (fun w' => w' = w4.drew) (by kernel_rfl) rfl ?_
                  refine anyC_reads (by kernel_rfl) [0, 1, 2, 3, 4, 5, 6, 7, 8, 9, 10, 11, 12, 13, 14, 15, 16, 17, 18, 19, 20, 21, 22, 23, 24, 25, 26, 27, 28, 29, 30, 31, 32, 33, 34, 35, 36, 37, 38] ?opd ?ohd 1 _ _ _ (by kernel_rfl) ?okd
                  case ohd => (simp only [List.filterMap_cons, List.filterMap_nil, List.getElem?_toArray, List.getElem?_cons_zero, List.getElem?_cons_succ]; try rfl)
                  repeat (
                    refine readC_step (v := ?_) rfl (fun w' hw' => ?_) ?_
                    rotate_left
                    focus (subst hw'; go_simp; try with_reducible rfl)
                    go_simp)
                  refine readC_nil ?_
                  refine anyC_one (i := 39) (by kernel_rfl) rfl rfl (.inr rfl) ?_
                  go_simp
                  refine anyC_end (by kernel_rfl) (.inl (by kernel_rfl)) ?_
                  go_wp2_with fail
                  go_roundw
                  case rel => exact ⟨j + 1, by omega, by omega, by go_num, (HB.out.setCell (p := ⟨qi, j, none⟩) hqS _).drew, HPUT.out.drew⟩
                  case measure => (simp [intOf]; omega)
                · obtain rfl : K = j := by omega
                  have HT2 : Hid (Tn w4 S G K K K q (eU w X r s (i + 1) s1)) := Lib.hid (ht.congr fun a b _ hb' => by
                    rw [HK.out, HS1.out]
                    exact eU_row (by rw [← HK.out]; exact hb'))
                  clear hb ht HT
                  go_wp2_with fail
                  go_roundw
                  case rel => exact ⟨i + 1, by omega, by omega, by go_num, HB.out, HT2.out⟩
                  case measure => (simp [intOf]; omega)
            · obtain rfl : K = i := by omega
              have ht2 : Tn w3 S G K K K q (eV w X r s1) := ht.congr fun a b ha _ => by
                rw [HK.out, HS1.out]
                exact eU_end (by rw [← HK.out]; exact ha)
              obtain ⟨d1, d2, _⟩ := ht2.at_ (i := s) (j := s) hlt (Nat.le_refl _) hlt
              have hval : eV w X r s1 s s = eL w X r s1 := by
                rw [HS1.out, eV_ss, eL_succ (by rw [← HK.out]; exact hlt)]
              rw [hval] at d2
              obtain ⟨lb, hlb⟩ : ∃ lb, lb = eL w X r s1 := ⟨_, rfl⟩
              rw [← hlb] at d2
              have HLB := Lib.hid hlb
              have HT2 := Lib.hid ht2
              clear hb ht HT ht2 hval hlb
              go_wp2_with fail
              go_roundw
              case rel => exact ⟨s1, hs1K, rfl, by rw [HLB.out], HB.out, HT2.out⟩
              case measure => (simp [intOf]; omega)
        · obtain rfl : K = s := by omega
          clear hb ht
          go_wp2_with fail
          go_ret
          refine ⟨?_, HB.out⟩
          rw [HK.out, HP.out.end_]
          rfl
end Go.Proofs.YtbbdiondhnmnaaaDoor
