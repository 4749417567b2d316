/- Making a graph out of degrees: the reference's walk. Conditions: at most 2^20 degrees, which read as a list. -/
import Derived.Test.YtlflnfelhndohaaHavS
namespace Go.Proofs.Ytlflnfelhndohaa
open Go.RowKit Go.Shelf

/-- What the reference hands back. -/
def RefIs (sc : List Int) (n : Nat) (e : Ending) (w' : World) : Prop :=
  ((∃ k, k < n ∧ badD n (sc.getD k 0) = true) ∨ refH n ((lsum sc).toNat + n + 1) sc = none → e = .returned (.tuple #[.agg #[.int .i64 0, .slice none 0 0], .bool false])) ∧
  (∀ E, (∀ k, k < n → badD n (sc.getD k 0) = false) → refH n ((lsum sc).toNat + n + 1) sc = some E → ∃ Ae cap, e = .returned (.tuple #[.agg #[.int .i64 n, .slice Ae E.length cap], .bool true]) ∧ Els w' w'.heap.size 3 Ed.cells Ae (edE E))
theorem ref_no {sc : List Int} {n : Nat} {e : Ending} {w' : World} (hk : refH n ((lsum sc).toNat + n + 1) sc = none) (he : e = .returned (.tuple #[.agg #[.int .i64 0, .slice none 0 0], .bool false])) : RefIs sc n e w' :=
  ⟨fun _ => he, fun E _ hE => by rw [hk] at hE; cases hE⟩
/-- Memory between the rounds. -/
structure RefK (n S T : Nat) (w : World) (E : List (Int × Int)) (Ae : Option Addr) (ce : Nat) (An : Option Addr) (cn : Nat) (left : List Int) (wr : World) : Prop where
  m : MakeK n S T w E Ae ce wr
  o : Own wr (S + 1) 3 1 icell An cn left
  gt : ∀ g, blkOf An = some g → g < T
section
variable {n S T : Nat} {w : World} {E : List (Int × Int)} {Ae : Option Addr} {ce : Nat} {An : Option Addr} {cn : Nat} {left : List Int} {wr w' : World}
theorem RefK.drewN (h : RefK n S T w E Ae ce An cn left wr) (k : Nat) : RefK n S T w E Ae ce An cn left (wr.drewN k) :=
  ⟨⟨below_drewN h.m.b k, h.m.z, h.m.st, h.m.k.drewN k, h.m.g.drewN k, h.m.e.drewN k⟩, h.o.drewN k, h.gt⟩
theorem MakeK.put_low (h : MakeK n S T w E Ae ce wr) {g k : Nat} (h1 : S + 1 ≤ g) (h2 : g < T) (v : Value) : MakeK n S T w E Ae ce (wr.setCell ⟨g, k, none⟩ v) := by
  have hz := h.z
  have hst := h.st
  have hsz : ∀ (w : World) (p : Addr) (u : Value), (w.setCell p u).heap.size = w.heap.size := fun w p u => by simp [World.setCell]
  exact ⟨h.b.setCell (p := ⟨g, k, none⟩) (show S ≤ g by omega) _, by rw [hsz]; exact hz, hst, h.k.far (p := ⟨g, k, none⟩) (show S ≠ g by omega) _, h.g.far (p := ⟨g, k, none⟩) (show T ≠ g by omega) _, h.e.low (p := ⟨g, k, none⟩) (show g < T + 1 by omega) _⟩
theorem RefK.put (h : RefK n S T w E Ae ce An cn left wr) {g k : Nat} (hA : An = some ⟨g, 0, none⟩) (hk : k < left.length) (v : Int) : RefK n S T w E Ae ce An cn (left.set k v) (wr.setCell ⟨g, k, none⟩ (.int .i64 v)) := by
  subst hA
  have h1 := h.o.lt g rfl
  exact ⟨h.m.put_low h1.1 (h.gt g rfl) _, h.o.put1 hk, h.gt⟩
theorem RefK.alloc (h : RefK n S T w E Ae ce An cn left wr) (o : Obj) : RefK n S T w E Ae ce An cn left (wr.alloc o) := ⟨h.m.alloc o, h.o.alloc o, h.gt⟩
/-- A row from T + 1 on, not that of the edges, grows. -/
theorem RefK.grown (h : RefK n S T w E Ae ce An cn left wr) {row : Option Nat} (hg : wr.grownBy w' row) (h1 : ∀ g, row = some g → T + 1 ≤ g) (h2 : blkOf Ae = none ∨ blkOf Ae ≠ row) : RefK n S T w E Ae ce An cn left w' := by
  have hz := h.m.z
  have hst := h.m.st
  have hs := hg.size
  refine ⟨⟨h.m.b.grown hg (by omega) (fun g hh => by have := h1 g hh; omega), by omega, hst, h.m.k.grown hg (fun e => by have := h1 S e.symm; omega), h.m.g.grown hg (fun e => by have := h1 T e.symm; omega), h.m.e.kept hg h2⟩, h.o.kept hg ?_, h.gt⟩
  cases hA : blkOf An with
  | none => exact .inl rfl
  | some g =>
    right
    intro e
    have := h1 g e.symm
    have := h.gt g hA
    omega
theorem RefK.push (h : RefK n S T w E Ae ce An cn left wr) {A' : Option Addr} {cap' : Nat} {p : Int × Int} (ho : Own w' (T + 1) 69 3 Ed.cells A' cap' (edE E ++ [⟨p.1, p.2, 0⟩])) (hg : wr.grownBy w' (blkOf Ae)) : RefK n S T w (E ++ [p]) A' cap' An cn left (w'.setCell ⟨T, 1, none⟩ (.slice A' (E.length + 1) cap')) := by
  refine ⟨h.m.push ho hg, (h.o.kept hg ?_).far (p := ⟨T, 1, none⟩) (fun e => ?_) _, h.gt⟩
  · cases hA : blkOf An with
    | none => exact .inl rfl
    | some g =>
      right
      intro e
      have := (h.m.e.lt g e.symm).1
      have := h.gt g hA
      omega
  · have := h.gt T e
    omega
end
theorem ownI_ne_ed {w : World} {B B' cap cap' : Nat} {A A' : Option Addr} {l : List Int} {l' : List Ed} (h : Own w B 3 1 icell A cap l) (hk : Own w B' 69 3 Ed.cells A' cap' l') : blkOf A = none ∨ blkOf A ≠ blkOf A' := by
  cases hA : blkOf A with
  | none => exact .inl rfl
  | some g =>
    right
    intro e
    have h1 := h
    have h2 := hk
    rw [h.some_ hA] at h1
    rw [hk.some_ e.symm] at h2
    exact own_own_ne h1 h2 (by decide) rfl
theorem own_ne_symm {A A' : Option Addr} (h : blkOf A = none ∨ blkOf A ≠ blkOf A') : blkOf A' = none ∨ blkOf A' ≠ blkOf A := by
  cases hA : blkOf A' with
  | none => exact .inl rfl
  | some g =>
    right
    intro e
    rcases h with h | h
    · rw [h] at e; cases e
    · exact h (by rw [← e, hA])
/-- The end: all that was made is handed back. -/
theorem ref_end {sc : List Int} {n S T : Nat} {w : World} {E : List (Int × Int)} {Ae : Option Addr} {ce : Nat} {wr : World} {e : Ending} (h : MakeK n S T w E Ae ce wr) (hgood : ∀ k, k < n → badD n (sc.getD k 0) = false) (hk : refH n ((lsum sc).toNat + n + 1) sc = some E)
    (he : e = .returned (.tuple #[.agg #[.int .i64 n, .slice Ae E.length ce], .bool true])) (w' : World) (hw : w' = (wr.setCell ⟨S, 0, none⟩ (.int .i64 n)).setCell ⟨S, 1, none⟩ (.slice Ae E.length ce)) : RefIs sc n e w' ∧ Below S w w' := by
  have hst := h.st
  subst hw
  refine ⟨⟨fun hh => ?_, fun E' _ hE => ?_⟩, (h.b.setCell (p := ⟨S, 0, none⟩) (Nat.le_refl _) _).setCell (p := ⟨S, 1, none⟩) (Nat.le_refl _) _⟩
  · rcases hh with ⟨k, hk, hb⟩ | hh
    · rw [hgood k hk] at hb; cases hb
    · rw [hk] at hh; cases hh
  · rw [hk] at hE
    obtain rfl := Option.some.inj hE
    exact ⟨Ae, ce, he, ((h.e.low (p := ⟨S, 0, none⟩) (show S < T + 1 by omega) _).low (p := ⟨S, 1, none⟩) (show S < T + 1 by omega) _).els⟩
set_option maxRecDepth 100000 in
set_option maxHeartbeats 4000000 in
theorem ref_Make (sc : List Int) (A : Option Addr) (n c : Nat) (w : World) (hl : sc.length = n) (hn : n ≤ 1048576) (hr : Els w w.heap.size 1 icell A sc) :
    Calls Try.prog 21 #[.slice A n c] w fun e w' => RefIs sc n e w' ∧ Below w.heap.size w w' := by
  obtain ⟨S, hS⟩ : ∃ S, S = w.heap.size := ⟨_, rfl⟩
  have hb0 := (Below.refl w.heap.size w).alloc (Nat.le_refl _) (.cells #[.int .i64 0, .slice none 0 0] 24)
  have hk0 := Blk.new w 24 #[.int .i64 0, .slice none 0 0]
  have hz0 : (w.alloc (.cells #[.int .i64 0, .slice none 0 0] 24)).heap.size = S + 1 := by rw [size_alloc', hS]
  have hr0 := hr.below hb0
  rw [← hS] at hb0 hk0 hr hr0
  obtain ⟨w0, hw0⟩ : ∃ w0, w0 = w.alloc (.cells #[.int .i64 0, .slice none 0 0] 24) := ⟨_, rfl⟩
  rw [← hw0] at hb0 hk0 hz0 hr0
  have ho0 : Own (w0.alloc (.cells #[] 3)) (S + 1) 3 1 icell (some ⟨S + 1, 0, none⟩) 0 ([] : List Int) := Own.empty_at hz0 _ _ _ (fun _ => rfl)
  have hb1 := hb0.alloc (by omega) (.cells #[] 3)
  have hk1 := hk0.alloc (.cells #[] 3)
  have hz1 : (w0.alloc (.cells #[] 3)).heap.size = S + 2 := by rw [size_alloc', hz0]
  have hr1 := hr.below hb1
  have HL := Lib.hid hl
  have HR := Lib.hid hr
  have HS := Lib.hid hS
  have HB1 := Lib.hid hb1
  have HK1 := Lib.hid hk1
  have HO1 := Lib.hid ho0
  have HZ1 := Lib.hid hz1
  have HZ0 := Lib.hid hz0
  have HR1 := Lib.hid hr1
  have HW0 := Lib.hid hw0
  clear hr hl hb0 hk0 ho0 hz0 hS hr0 hb1 hk1 hz1 hr1 hw0
  go_enter Try.func21, Try.ntmps21
  go_wp2_with (at_builtin; rw [← HW0.out, ← HS.out]; go_loud (refine wpList_append_els rfl _ _ _ rfl (S + 1) 1 3 (.int .i64 0) 8 Try.underlying30 (by kernel_rfl) rfl (by omega) icell _ (some ⟨S + 1, 0, none⟩) 0 0 [] rfl rfl HO1.out _ _ _ sc HL.out rfl _ HR1.out (one_flat (fun a u hu => by simp at hu; rw [hu]; rfl) _) (by unfold maxLen; omega) (by omega) (by rw [HZ1.out]; omega) ?_; intro An cn w2 hown2 hgrow2 hloc2))
  rw [List.nil_append] at hown2
  obtain ⟨T, hT⟩ : ∃ T, T = w2.heap.size := ⟨_, rfl⟩
  have hz2 : S + 2 ≤ T := by have h1 := hgrow2.size; rw [HZ1.out] at h1; omega
  have hne2 : ∀ g, some g = blkOf (some ⟨S + 1, 0, none⟩ : Option Addr) → g = S + 1 := fun g hg => by simpa [blkOf] using hg
  have hb2 := HB1.out.grown hgrow2 (by rw [HZ1.out]; omega) (fun g hg => by have := hne2 g hg.symm; omega)
  have hk2 := HK1.out.grown hgrow2 (fun e => by have := hne2 S e; omega)
  have hrk : RefK n S T w [] none 0 An cn sc (w2.alloc (.cells #[.int .i64 n, .slice none 0 0] 24)) := by
    refine ⟨⟨hb2.alloc (by omega) _, by rw [size_alloc', ← hT]; exact Nat.le_refl _, by omega, hk2.alloc _, by rw [hT]; exact Blk.new _ _ _, Own.nil _ _ _ (fun _ => rfl)⟩, hown2.alloc _, fun g hg => by have := (hown2.lt g hg).2; omega⟩
  obtain ⟨W3, hW3⟩ : ∃ W3, W3 = w2.alloc (.cells #[.int .i64 n, .slice none 0 0] 24) := ⟨_, rfl⟩
  rw [← hW3] at hrk ⊢
  rw [← hT]
  have HRK := Lib.hid hrk
  clear hrk hW3 hk2 hb2 hne2 hz2 hT hown2 hgrow2 hloc2 HK1 HO1 HB1 HZ1 HZ0 HR1 HW0
  go_loopw [25, 3] (fun s25 s3 wr => ∃ i : Nat, i ≤ n ∧ s25 = .int .i64 i ∧ s3 = .bool false ∧ W3 = wr ∧ ∀ k, k < i → badD n (sc.getD k 0) = false) (fun s25 _ _ => n - (intOf s25).toNat)
  case atStart => exact ⟨0, Nat.zero_le _, rfl, rfl, rfl, fun k hk => by omega⟩
  case round =>
    rename World => wr
    obtain ⟨i, hi, rfl, rfl, rfl, hgood⟩ := hrel
    by_cases hlt : i < n
    · have hil : i < sc.length := by rw [HL.out]; exact hlt
      obtain ⟨b, off, rfl, _, x0⟩ := (HR.out.below HRK.out.m.b).at1 hil
      obtain ⟨x, hx⟩ : ∃ x, x = sc.getD i 0 := ⟨_, rfl⟩
      rw [← getD_at sc i hil 0, ← hx] at x0
      have f0 := HRK.out.m.k.frozen 0
      have f1 := HRK.out.m.k.frozen 1
      have c0 := HRK.out.m.k.cell 0
      have c1 := HRK.out.m.k.cell 1
      have HX := Lib.hid hx
      have HGD := Lib.hid hgood
      clear hgood hx
      by_cases hneg : x < 0
      · go_wp2_with fail
        obtain ⟨V, hV⟩ : ∃ V, V = (W3.setCell ⟨S, 0, none⟩ (.int .i64 0)).setCell ⟨S, 1, none⟩ (.slice none 0 0) := ⟨_, rfl⟩
        rw [← hV]
        have hv2 : Blk V S 24 #[.int .i64 0, .slice none 0 0] := by rw [hV]; exact (HRK.out.m.k.put 0 (.int .i64 0)).put 1 (.slice none 0 0)
        have hbV : Below S w V := by rw [hV]; exact (HRK.out.m.b.setCell (p := ⟨S, 0, none⟩) (Nat.le_refl _) _).setCell (p := ⟨S, 1, none⟩) (Nat.le_refl _) _
        have v0 := hv2.cell 0
        have v1 := hv2.cell 1
        refine bodyPost_ret (v := .tuple #[.agg #[.int .i64 0, .slice none 0 0], .bool false]) (by simp [results, Try.results21, go_sem, v0, v1]) rfl ?_
        have hbad : badD n (sc.getD i 0) = true := by rw [← HX.out]; unfold badD; exact decide_eq_true (by omega)
        exact ⟨⟨fun _ => rfl, fun E h => by have := h i hlt; rw [hbad] at this; cases this⟩, by rw [← HS.out]; exact hbV⟩
      · by_cases hbig : (n : Int) ≤ x
        · go_wp2_with fail
          obtain ⟨V, hV⟩ : ∃ V, V = (W3.setCell ⟨S, 0, none⟩ (.int .i64 0)).setCell ⟨S, 1, none⟩ (.slice none 0 0) := ⟨_, rfl⟩
          rw [← hV]
          have hv2 : Blk V S 24 #[.int .i64 0, .slice none 0 0] := by rw [hV]; exact (HRK.out.m.k.put 0 (.int .i64 0)).put 1 (.slice none 0 0)
          have hbV : Below S w V := by rw [hV]; exact (HRK.out.m.b.setCell (p := ⟨S, 0, none⟩) (Nat.le_refl _) _).setCell (p := ⟨S, 1, none⟩) (Nat.le_refl _) _
          have v0 := hv2.cell 0
          have v1 := hv2.cell 1
          refine bodyPost_ret (v := .tuple #[.agg #[.int .i64 0, .slice none 0 0], .bool false]) (by simp [results, Try.results21, go_sem, v0, v1]) rfl ?_
          have hbad : badD n (sc.getD i 0) = true := by rw [← HX.out]; unfold badD; exact decide_eq_true (by omega)
          exact ⟨⟨fun _ => rfl, fun E h => by have := h i hlt; rw [hbad] at this; cases this⟩, by rw [← HS.out]; exact hbV⟩
        · go_wp2_with fail
          go_roundw
          case rel =>
            refine ⟨i + 1, by omega, by go_num, rfl, trivial, fun k hk => ?_⟩
            by_cases e : k = i
            · subst e; rw [← HX.out]; unfold badD; exact decide_eq_false (by omega)
            · exact HGD.out k (by omega)
          case measure => simp [intOf]; omega
    · obtain rfl : n = i := by omega
      have HGD := Lib.hid hgood
      have HLI := Lib.hid (LeftI.start HL.out hn hgood)
      clear hgood hi
      go_wp2_with fail
      go_loopg [3] ((lsum sc).toNat) (fun gk s3 wr => ∃ (left : List Int) (E : List (Int × Int)) (Ae : Option Addr) (ce f : Nat), s3 = .bool false ∧ LeftI sc n ((lsum sc).toNat + n + 1) left E f gk ∧ RefK n S T w E Ae ce An cn left wr)
      case atStart => exact ⟨sc, [], none, 0, _, rfl, HLI.out, HRK.out⟩
      case round =>
        clear HLI HRK
        obtain ⟨gk0, rfl⟩ : ∃ gk0, gk0 = gk := ⟨_, rfl⟩
        obtain ⟨left, E, Ae, ce, f, rfl, hli, hrk⟩ := hrel
        obtain ⟨F0, hF0⟩ : ∃ F0, F0 = (lsum sc).toNat + n + 1 := ⟨_, rfl⟩
        have HF0 := Lib.hid hF0
        rw [← hF0] at hli
        have HLI := Lib.hid hli
        have HRK := Lib.hid hrk
        clear hli hrk hF0
        go_wp2_with fail
        go_loopw [10, 9] (fun s10 s9 w2 => ∃ j : Nat, j ≤ n ∧ s10 = .int .i64 j ∧ s9 = .int .i64 (topF left j) ∧ RefK n S T w E Ae ce An cn left w2) (fun s10 _ _ => n - (intOf s10).toNat)
        case atStart => exact ⟨0, Nat.zero_le _, rfl, rfl, HRK.out⟩
        case round =>
          clear HRK
          rename World => w4
          obtain ⟨j, hj, rfl, rfl, hrk⟩ := hrel
          have HRK := Lib.hid hrk
          have hll := HLI.out.len
          have htr := topF_range left j
          obtain ⟨q, hq⟩ : ∃ q : Nat, topF left j = q := ⟨(topF left j).toNat, by omega⟩
          by_cases hlt : j < n
          · have hjl : j < left.length := by omega
            have hql : q < left.length := by omega
            obtain ⟨g, rfl, hg1, hg2, x0, fz0⟩ := hrk.o.cell1 (f := fun x : Int => .int .i64 x) hjl
            obtain ⟨g', hg', _, _, y0, fz1⟩ := hrk.o.cell1 (f := fun x : Int => .int .i64 x) hql
            obtain rfl : g = g' := by simpa using hg'
            obtain ⟨x, hx⟩ : ∃ x, x = left[j] := ⟨_, rfl⟩
            obtain ⟨y, hy⟩ : ∃ y, y = left[q] := ⟨_, rfl⟩
            rw [← hx] at x0
            rw [← hy] at y0
            have hTS : topF left (j + 1) = if y < x then (j : Int) else (q : Int) := by
              rw [topF, hq, val_nat, getD_at left q hql, getD_at left j hjl, hx, hy]
            have HTS := Lib.hid hTS
            have hqn : (q : Int) < (n : Int) := by omega
            rw [hq]
            clear hrk hx hy hTS hq htr hg' hll hg1 hg2 fz0 fz1
            by_cases hyx : y < x
            · go_wp2_with fail
              go_quiet (fail)
              go_wp2_with fail
              go_roundw
              case rel => exact ⟨j + 1, by omega, by go_num, by rw [HTS.out, if_pos (by omega)], HRK.out.drewN _⟩
              case measure => simp [intOf]; omega
            · go_wp2_with fail
              go_quiet (fail)
              go_wp2_with fail
              go_roundw
              case rel => exact ⟨j + 1, by omega, by go_num, by rw [HTS.out, if_neg (by omega)], HRK.out.drewN _⟩
              case measure => simp [intOf]; omega
          · obtain rfl : n = j := by omega
            have HLL := Lib.hid hll
            have g0 := hrk.m.g.cell 0
            have g1 := hrk.m.g.cell 1
            have k0 := hrk.m.k.frozen 0
            have k1 := hrk.m.k.frozen 1
            have j0 := hrk.m.k.cell 0
            have j1 := hrk.m.k.cell 1
            have HQ := Lib.hid hq
            rw [hq]
            by_cases hn0 : n = 0
            · have hfin := HLI.out.done (.inl hn0)
              have hnb : ((n : Int) == 0) = true := by simp [hn0]
              rw [HF0.out] at hfin
              have HF := Lib.hid hfin
              have HN0 := Lib.hid hn0
              clear hfin hrk hq htr hll hn0
              go_wp2_with fail
              obtain ⟨V2, hV2⟩ : ∃ V2, V2 = (w4.setCell ⟨S, 0, none⟩ (.int .i64 n)).setCell ⟨S, 1, none⟩ (.slice Ae E.length ce) := ⟨_, rfl⟩
              rw [← hV2]
              have hkk : Blk V2 S 24 #[.int .i64 n, .slice Ae E.length ce] := by rw [hV2]; exact (HRK.out.m.k.put 0 _).put 1 _
              have v0 := hkk.cell 0
              have v1 := hkk.cell 1
              refine bodyPost_ret (v := .tuple #[.agg #[.int .i64 n, .slice Ae E.length ce], .bool true]) (by simp [results, Try.results21, go_sem, v0, v1]) rfl ?_
              rw [← HS.out]
              exact ref_end HRK.out.m HGD.out HF.out rfl V2 hV2
            · have hnb : ((n : Int) == 0) = false := by simp; omega
              have hqn : q < n := by omega
              have hql : q < left.length := by omega
              obtain ⟨g, rfl, hg1, hg2, y0, fz1⟩ := hrk.o.cell1 (f := fun x : Int => .int .i64 x) hql
              obtain ⟨y, hy⟩ : ∃ y, y = left[q] := ⟨_, rfl⟩
              rw [← hy] at y0
              have hvy : valZ left (topF left n) = y := by rw [hq, val_nat, getD_at left q hql, hy]
              have hyn := left_val HLI.out.len HLI.out.at_ (topF left n)
              rw [hvy] at hyn
              have hqi : (q : Int) < (n : Int) := by omega
              by_cases hy0 : y = 0
              · have hfin := HLI.out.done (.inr (by rw [hvy]; exact hy0))
                have hyb : (y == 0) = true := by simp [hy0]
                rw [HF0.out] at hfin
                have HF := Lib.hid hfin
                clear hfin hrk hq htr hll hn0 hy hvy hyn hy0 hg1 hg2 fz1
                go_wp2_with fail
                obtain ⟨V2, hV2⟩ : ∃ V2, V2 = (w4.setCell ⟨S, 0, none⟩ (.int .i64 n)).setCell ⟨S, 1, none⟩ (.slice Ae E.length ce) := ⟨_, rfl⟩
                rw [← hV2]
                have hkk : Blk V2 S 24 #[.int .i64 n, .slice Ae E.length ce] := by rw [hV2]; exact (HRK.out.m.k.put 0 _).put 1 _
                have v0 := hkk.cell 0
                have v1 := hkk.cell 1
                refine bodyPost_ret (v := .tuple #[.agg #[.int .i64 n, .slice Ae E.length ce], .bool true]) (by simp [results, Try.results21, go_sem, v0, v1]) rfl ?_
                rw [← HS.out]
                exact ref_end HRK.out.m HGD.out HF.out rfl V2 hV2
              · have hyb : (y == 0) = false := by simp [hy0]
                obtain ⟨d, hd⟩ : ∃ d : Nat, y = d := ⟨y.toNat, by omega⟩
                subst hd
                have hnz : ¬ (n = 0 ∨ valZ left (topF left n) = 0) := by rw [hvy]; omega
                have hd1 : 1 ≤ d := by omega
                have hdn : d ≤ n := by omega
                have HNZ := Lib.hid hnz
                have HVY := Lib.hid hvy
                have HYE : Hid (left.getD q 0 = (d : Int)) := Lib.hid (by rw [getD_at left q hql, ← hy])
                have HYB := Lib.hid hyb
                have HNB := Lib.hid hnb
                have hset : left.set q (d : Int) = left := by rw [hy]; exact List.set_getElem_self hql
                have HSET := Lib.hid hset
                clear hrk hq htr hll hn0 hy hvy hyn hy0 hg1 hg2 fz1 hset hnz hql
                go_wp2_with fail
                try rw [HYB.out]
                try rw [HNB.out]
                clear HYB HNB hyb hnb y0 g0 g1 k0 k1 j0 j1
                go_loopg [11, 3] d (fun gk2 s11 s3 wr => ∃ (k : Nat) (M : List Int) (Ag : Option Addr) (cg : Nat) (E3 : List (Int × Int)) (Ae3 : Option Addr) (ce3 : Nat), gk2 = d - k ∧ s11 = .slice Ag k cg ∧ s3 = .bool false ∧ PickI left n q d k M ∧ E3 = E ++ M.map (fun x => ((q : Int), x)) ∧ RefK n S T w E3 Ae3 ce3 (some ⟨g, 0, none⟩) cn (left.set q ((d : Int) - k)) wr ∧ Own wr (T + 1) 3 1 icell Ag cg M)
                case atStart => exact ⟨0, [], none, 0, E, Ae, ce, rfl, rfl, rfl, PickI.start _ _ _ _, by simp, by rw [show (d : Int) - ((0 : Nat) : Int) = d by omega, HSET.out]; exact HRK.out, Own.nil _ _ _ (fun _ => rfl)⟩
                case round =>
                  clear HRK HSET
                  rename World => w5
                  obtain ⟨k, M, Ag, cg, E3, Ae3, ce3, hgk, rfl, rfl, hpk, hE3, hrk, hgot⟩ := hrel
                  have hkd := hpk.cd
                  have hlq : (left.set q ((d : Int) - k)).length = n := by rw [List.length_set]; exact HLL.out
                  obtain ⟨g', hg', hg1, hg2, y1, fz1⟩ := hrk.o.cell1 (f := fun x : Int => .int .i64 x) (k := q) (by rw [hlq]; exact hqn)
                  obtain rfl : g = g' := by simpa using hg'
                  have hyq : (left.set q ((d : Int) - k))[q]'(by rw [hlq]; exact hqn) = (d : Int) - k := by rw [List.getElem_set_self]
                  rw [hyq] at y1
                  have hML := hpk.len
                  have HPK := Lib.hid hpk
                  have HE3 := Lib.hid hE3
                  have HRK := Lib.hid hrk
                  have HGT := Lib.hid hgot
                  have HGK := Lib.hid hgk
                  have HML := Lib.hid hML
                  have HLQ := Lib.hid hlq
                  clear hpk hE3 hrk hgot hgk hg' hg1 hg2 hyq hML hlq
                  by_cases hkl : k < d
                  · have hpos : (0 : Int) < (d : Int) - k := by omega
                    have HKL := Lib.hid hkl
                    clear hkl
                    go_wp2_with fail
                    rw [decide_eq_true HKL.out]
                    go_loopw [13, 12] (fun s13 s12 w6 => ∃ j : Nat, j ≤ n ∧ s13 = .int .i64 j ∧ s12 = .int .i64 (bestF left M q j) ∧ RefK n S T w E3 Ae3 ce3 (some ⟨g, 0, none⟩) cn (left.set q ((d : Int) - k)) w6 ∧ Own w6 (T + 1) 3 1 icell Ag cg M) (fun s13 _ _ => n - (intOf s13).toNat)
                    case atStart => exact ⟨0, Nat.zero_le _, rfl, rfl, HRK.out, HGT.out⟩
                    case round =>
                      clear HRK HGT y1
                      rename World => w6
                      obtain ⟨j, hj, rfl, rfl, hrk, hgot⟩ := hrel
                      have hbo := bestF_ok left M q j
                      have HRK := Lib.hid hrk
                      have HGT := Lib.hid hgot
                      by_cases hlt : j < n
                      · have hjl : j < left.length := by rw [HLL.out]; exact hlt
                        obtain ⟨g', hg', _, _, x0, _⟩ := hrk.o.cell1 (f := fun x : Int => .int .i64 x) (k := j) (by rw [HLQ.out]; exact hlt)
                        obtain rfl : g = g' := by simpa using hg'
                        have HH : Hid (∀ N, Calls Try.prog 11 #[.slice Ag k cg, .int .i64 j] (w6.drewN N) fun e w' => e = .returned (.bool (hasB M j)) ∧ w6.drewN N = w') := Lib.hid (fun N => Has_any Ag k cg M j w6.heap.size (w6.drewN N) HML.out (by unfold maxLen; omega) (hgot.els.drewN N))
                        have HPS : Hid (bestF left M q (j + 1) = if (j : Int) ≠ q ∧ hasB M j = false ∧ 0 < left.getD j 0 ∧ (bestF left M q j < 0 ∨ valZ left (bestF left M q j) < left.getD j 0) then (j : Int) else bestF left M q j) := Lib.hid rfl
                        obtain ⟨p, hp⟩ : ∃ p, p = bestF left M q j := ⟨_, rfl⟩
                        rw [← hp] at hbo HPS ⊢
                        have HP := Lib.hid hp
                        clear hp
                        by_cases hjq : (j : Int) = (q : Int)
                        · have hjb : ((j : Int) == (q : Int)) = true := by simp [hjq]
                          have hjn : j = q := by omega
                          have hj2 : (j == q) = true := by simp [hjn]
                          have hj3 : ((j : Int) != (q : Int)) = false := by simp [hjn]
                          have hj4 : (j != q) = false := by simp [hjn]
                          have hj5 : decide ((j : Int) = (q : Int)) = true := by simp [hjn]
                          have hj6 : decide (j = q) = true := by simp [hjn]
                          clear hjn
                          have HN2 : Hid (bestF left M q (j + 1) = p) := Lib.hid (by rw [HPS.out, if_neg (fun h => h.1 hjq)])
                          clear hrk hgot hbo hg' hjq HPS HH HP
                          go_wp2_with fail
                          go_quiet (fail)
                          go_wp2_with fail
                          go_roundw
                          case rel => exact ⟨j + 1, by omega, by go_num, by rw [HN2.out], HRK.out.drewN _, HGT.out.drewN _⟩
                          case measure => simp [intOf]; omega
                        · have hjb : ((j : Int) == (q : Int)) = false := by simp; omega
                          have hjn : ¬ j = q := by omega
                          have hj2 : (j == q) = false := by simp [hjn]
                          have hj3 : ((j : Int) != (q : Int)) = true := by simp; omega
                          have hj4 : (j != q) = true := by simp [hjn]
                          have hj5 : decide ((j : Int) = (q : Int)) = false := by simp; omega
                          have hj6 : decide (j = q) = false := by simp [hjn]
                          clear hjn
                          have hxj : (left.set q ((d : Int) - k))[j]'(by rw [HLQ.out]; exact hlt) = left.getD j 0 := by
                            rw [List.getElem_set, if_neg (by omega), getD_at left j hjl]
                          rw [hxj] at x0
                          obtain ⟨x, hx⟩ : ∃ x, x = left.getD j 0 := ⟨_, rfl⟩
                          rw [← hx] at x0 HPS
                          have HJQ := Lib.hid hjq
                          clear hx hxj hjq
                          cases hh : hasB M (j : Int) with
                          | true =>
                            rw [hh] at HH
                            have HN2 : Hid (bestF left M q (j + 1) = p) := Lib.hid (by rw [HPS.out, if_neg (fun h => by rw [hh] at h; cases h.2.1)])
                            clear hrk hgot hbo hg' hh HPS HP
                            go_wp2_with fail
                            go_quiet ((go_at_call 11; exact quietL (HH.out _)))
                            go_wp2_with fail
                            go_roundw
                            case rel => exact ⟨j + 1, by omega, by go_num, by rw [HN2.out], HRK.out.drewN _, HGT.out.drewN _⟩
                            case measure => simp [intOf]; omega
                          | false =>
                            rw [hh] at HH
                            by_cases hx0 : 0 < x
                            · by_cases hp0 : p < 0
                              · have HN2 : Hid (bestF left M q (j + 1) = j) := Lib.hid (by rw [HPS.out, if_pos ⟨HJQ.out, hh, hx0, .inl hp0⟩])
                                clear hrk hgot hbo hg' hh HPS HP
                                go_wp2_with fail
                                go_quiet ((go_at_call 11; exact quietL (HH.out _)))
                                go_wp2_with fail
                                go_roundw
                                case rel => exact ⟨j + 1, by omega, by go_num, by rw [HN2.out], HRK.out.drewN _, HGT.out.drewN _⟩
                                case measure => simp [intOf]; omega
                              · obtain ⟨m, rfl⟩ := Int.eq_ofNat_of_zero_le (show 0 ≤ p by omega)
                                have hbo2 : (m : Int) < (j : Int) ∧ (m : Int) ≠ (q : Int) := by
                                  rcases hbo with h | h
                                  · omega
                                  · exact ⟨h.2.1, h.2.2.1⟩
                                have hmn : m < n := by omega
                                have hmi : (m : Int) < (n : Int) := by omega
                                obtain ⟨g', hg'', _, _, z0, _⟩ := hrk.o.cell1 (f := fun x : Int => .int .i64 x) (k := m) (by rw [HLQ.out]; exact hmn)
                                obtain rfl : g = g' := by simpa using hg''
                                have hzm : (left.set q ((d : Int) - k))[m]'(by rw [HLQ.out]; exact hmn) = valZ left (m : Int) := by
                                  rw [List.getElem_set, if_neg (by omega), val_nat, getD_at left m (by rw [HLL.out]; exact hmn)]
                                rw [hzm] at z0
                                obtain ⟨z, hz⟩ : ∃ z, z = valZ left (m : Int) := ⟨_, rfl⟩
                                rw [← hz] at z0 HPS
                                clear hz hzm hg'' hbo hbo2
                                by_cases hzx : z < x
                                · have HN2 : Hid (bestF left M q (j + 1) = j) := Lib.hid (by rw [HPS.out, if_pos ⟨HJQ.out, hh, hx0, .inr hzx⟩])
                                  clear hrk hgot hg' hh HPS HP
                                  go_wp2_with fail
                                  go_quiet ((go_at_call 11; exact quietL (HH.out _)))
                                  go_wp2_with fail
                                  go_roundw
                                  case rel => exact ⟨j + 1, by omega, by go_num, by rw [HN2.out], HRK.out.drewN _, HGT.out.drewN _⟩
                                  case measure => simp [intOf]; omega
                                · have HN2 : Hid (bestF left M q (j + 1) = m) := Lib.hid (by rw [HPS.out, if_neg (fun h => by rcases h.2.2.2 with h | h <;> omega)])
                                  clear hrk hgot hg' hh HPS HP
                                  go_wp2_with fail
                                  go_quiet ((go_at_call 11; exact quietL (HH.out _)))
                                  go_wp2_with fail
                                  go_roundw
                                  case rel => exact ⟨j + 1, by omega, by go_num, by rw [HN2.out], HRK.out.drewN _, HGT.out.drewN _⟩
                                  case measure => simp [intOf]; omega
                            · have hxb : decide (0 < x) = false := decide_eq_false hx0
                              have HN2 : Hid (bestF left M q (j + 1) = p) := Lib.hid (by rw [HPS.out, if_neg (fun h => hx0 h.2.2.1)])
                              clear hrk hgot hbo hg' hh HPS HP
                              go_wp2_with fail
                              go_quiet ((go_at_call 11; exact quietL (HH.out _)))
                              go_wp2_with fail
                              go_roundw
                              case rel => exact ⟨j + 1, by omega, by go_num, by rw [HN2.out], HRK.out.drewN _, HGT.out.drewN _⟩
                              case measure => simp [intOf]; omega
                      · obtain rfl : n = j := by omega
                        have hkd2 := HKL.out
                        obtain ⟨b, hb⟩ : ∃ b, b = bestF left M q n := ⟨_, rfl⟩
                        rw [← hb] at hbo ⊢
                        have HBE := Lib.hid hb
                        have k0 := hrk.m.k.frozen 0
                        have k1 := hrk.m.k.frozen 1
                        have j0 := hrk.m.k.cell 0
                        have j1 := hrk.m.k.cell 1
                        by_cases hb0 : b < 0
                        · have hno : refH n F0 sc = none := HLI.out.fail HNZ.out (by rw [HVY.out, HQ.out, Int.toNat_natCast]; exact HPK.out.none HKL.out (by rw [← hb]; exact hb0))
                          rw [HF0.out] at hno
                          have HNO := Lib.hid hno
                          clear hno hrk hgot hbo hb hkd2
                          go_wp2_with fail
                          obtain ⟨V2, hV2⟩ : ∃ V2, V2 = (w6.setCell ⟨S, 0, none⟩ (.int .i64 0)).setCell ⟨S, 1, none⟩ (.slice none 0 0) := ⟨_, rfl⟩
                          rw [← hV2]
                          have hkk : Blk V2 S 24 #[.int .i64 0, .slice none 0 0] := by rw [hV2]; exact (HRK.out.m.k.put 0 _).put 1 _
                          have v0 := hkk.cell 0
                          have v1 := hkk.cell 1
                          refine bodyPost_ret (v := .tuple #[.agg #[.int .i64 0, .slice none 0 0], .bool false]) (by simp [results, Try.results21, go_sem, v0, v1]) rfl ?_
                          rw [← HS.out]
                          exact ⟨ref_no HNO.out rfl, by rw [hV2]; exact (HRK.out.m.b.setCell (p := ⟨S, 0, none⟩) (Nat.le_refl _) _).setCell (p := ⟨S, 1, none⟩) (Nat.le_refl _) _⟩
                        · have hpn := HPK.out.next HKL.out (by rw [← hb]; exact hb0)
                          rw [← hb] at hpn
                          obtain ⟨m, rfl⟩ := Int.eq_ofNat_of_zero_le (show 0 ≤ b by omega)
                          have HPN := Lib.hid hpn
                          have hz6 := hrk.m.z
                          have hE3l : E3.length ≤ 1099512676352 := by
                            have h1 := HLI.out.sz
                            have h2 : 0 ≤ lsum left := lsum_nn fun x hx => (HLI.out.at_ x hx).1
                            rw [HE3.out, List.length_append, List.length_map, HML.out]
                            omega
                          have hws : IntKind.i64.wrap ((d : Int) - k - 1) = (d : Int) - k - 1 := IntWalk.i64_in _ (by omega)
                          clear hrk hgot hbo hb hpn HBE k0 k1 j0 j1
                          go_wp2_with (first
                            | (at_builtin; go_loud (refine wpList_push rfl (.tmp 108) (.tmp 110) _ rfl (T + 1) 1 3 (.int .i64 0) 8 Try.underlying30 (by kernel_rfl) rfl (by omega) icell w6 #[.int .i64 m] Ag k cg M HML.out rfl HGT.out 1 [(m : Int)] rfl rfl _ rfl rfl (by simp [Value.oneCell']) (by unfold maxLen; omega) (by omega) hz6 ?_; intro A7 cap7 w7 hown7 hgrow7 hloc7; have hrk7 := (HRK.out.alloc (.cells #[.int .i64 m] 3)).grown hgrow7 (fun g hg => (HGT.out.lt g hg).1) (own_ne_symm (ownI_ne_ed HGT.out HRK.out.m.e)); obtain ⟨g7, hg7, _, _, y7, f7⟩ := hrk7.o.cell1 (f := fun x : Int => .int .i64 x) (k := q) (by rw [HLQ.out]; exact hqn); obtain rfl : g = g7 := (by simpa using hg7); rw [List.getElem_set_self] at y7; clear hg7; have hz7 := hrk7.m.z; have hrk8 := hrk7.put rfl (k := q) (by rw [HLQ.out]; exact hqn) ((d : Int) - k - 1); have t8 := hrk8.m.g.cell 1; have HRK8 := Lib.hid hrk8; have HG7 := Lib.hid hown7; clear hrk7 hrk8 hown7 hgrow7 hloc7))
                            | (at_builtin; go_loud (refine wpList_push rfl (.tmp 121) (.tmp 125) _ rfl (T + 1) 3 69 (.agg #[.int .i64 0, .int .i64 0, .int .i64 0]) 24 Try.underlying22 (by kernel_rfl) rfl (by omega) Ed.cells _ #[.int .i64 q, .int .i64 m, .int .i64 0] Ae3 E3.length ce3 (edE E3) (edE_len _) rfl HRK8.out.m.e 1 [⟨q, m, 0⟩] rfl rfl _ rfl (by simp) (by simp [Value.oneCell']) (by unfold maxLen; omega) (by omega) hz7 ?_; intro A9 cap9 w9 hown9 hgrow9 hloc9; have hg9 := (HRK8.out.alloc (.cells #[.int .i64 q, .int .i64 m, .int .i64 0] 69)).m.g.grown hgrow9 (fun e => (by have := (HRK8.out.m.e.lt T e.symm).1; omega)); have c9 := hg9.cell 1; have f9 := hg9.frozen 1; clear hg9)))
                          have hrk10 := (HRK8.out.alloc (.cells #[.int .i64 q, .int .i64 m, .int .i64 0] 69)).push (p := ((q : Int), (m : Int))) hown9 hgrow9
                          rw [List.set_set] at hrk10
                          have hgT : g < T := HRK8.out.gt g rfl
                          have hgt9 : Own (w9.setCell ⟨T, 1, none⟩ (.slice A9 (E3.length + 1) cap9)) (T + 1) 3 1 icell A7 cap7 (M ++ [(m : Int)]) := by
                            have h1 := (HG7.out.low (p := ⟨g, q, none⟩) (show g < T + 1 by omega) (.int .i64 ((d : Int) - k - 1))).alloc (.cells #[.int .i64 q, .int .i64 m, .int .i64 0] 69)
                            have h2 := (HRK8.out.alloc (.cells #[.int .i64 q, .int .i64 m, .int .i64 0] 69)).m.e
                            exact (h1.kept hgrow9 (ownI_ne_ed h1 h2)).low (p := ⟨T, 1, none⟩) (show T < T + 1 by omega) _
                          have HRK9 := Lib.hid hrk10
                          have HGT9 := Lib.hid hgt9
                          clear hrk10 hgt9 hown9 hgrow9 hloc9 t8
                          go_roundg (d - (k + 1))
                          case measure => have := HGK.out; have := HKL.out; omega
                          case rel =>
                            refine ⟨k + 1, M ++ [(m : Int)], A7, cap7, E3 ++ [((q : Int), (m : Int))], A9, cap9, rfl, rfl, rfl, HPN.out, ?_, ?_, HGT9.out⟩
                            · rw [HE3.out, List.map_append, List.append_assoc]
                              rfl
                            · rw [show (d : Int) - ((k + 1 : Nat) : Int) = (d : Int) - k - 1 by omega]
                              exact HRK9.out
                  · obtain rfl : d = k := by omega
                    rw [Int.sub_self] at y1 HRK HLQ
                    clear hkl hkd
                    have HD0 : Hid ((M.take 0).foldl (fun l x => l.set x.toNat (valZ l x - 1)) (left.set q 0) = left.set q 0) := Lib.hid rfl
                    go_wp2_with fail
                    go_loopw [130] (fun s130 w6 => ∃ r : Nat, r ≤ d ∧ s130 = .int .i64 r ∧ RefK n S T w E3 Ae3 ce3 (some ⟨g, 0, none⟩) cn ((M.take r).foldl (fun l x => l.set x.toNat (valZ l x - 1)) (left.set q 0)) w6 ∧ Own w6 (T + 1) 3 1 icell Ag cg M) (fun s130 _ => d - (intOf s130).toNat)
                    case atStart => exact ⟨0, Nat.zero_le _, rfl, by rw [HD0.out]; exact HRK.out, HGT.out⟩
                    case round =>
                      clear HRK HGT y1 fz1 HD0
                      rename World => w6
                      obtain ⟨r, hr, rfl, hrk, hgot⟩ := hrel
                      by_cases hlt : r < d
                      · have hrM : r < M.length := by rw [HML.out]; exact hlt
                        obtain ⟨gg, rfl, hgg1, hgg2, x0, _⟩ := hgot.cell1 (f := fun x : Int => .int .i64 x) hrM
                        have hM := HPK.out.at_ M[r] (List.getElem_mem hrM)
                        obtain ⟨L, hL⟩ : ∃ L, L = (M.take r).foldl (fun l x => l.set x.toNat (valZ l x - 1)) (left.set q 0) := ⟨_, rfl⟩
                        have hLl : L.length = n := by rw [hL, foldl_dec, List.length_set, HLL.out]
                        have hnd : M[r] ∉ M.take r := fun hm => by
                          rw [List.mem_take_iff_getElem] at hm
                          obtain ⟨u, hu, he⟩ := hm
                          have := (List.nodup_iff_pairwise_ne.1 HPK.out.nd)
                          exact List.pairwise_iff_getElem.1 this u r (by omega) hrM (by omega) he
                        have hval : valZ L M[r] = valZ left M[r] := by
                          rw [hL, dec_val (M.take r) (left.set q 0) ((List.take_sublist r M).nodup HPK.out.nd) (fun y hy => by
                            have := HPK.out.at_ y (List.mem_of_mem_take hy)
                            rw [List.length_set, HLL.out]; omega) M[r] hM.1, if_neg hnd]
                          have := val_off (left := left) (a := (q : Int)) (b := M[r]) (by omega) hM.1 hM.2.2.1 0
                          rwa [Int.toNat_natCast] at this
                        have hvb := left_val HLI.out.len HLI.out.at_ M[r]
                        have hdt := dec_take (L := left.set q 0) hrM
                        rw [← hL, hval] at hdt
                        obtain ⟨m, hm⟩ := Int.eq_ofNat_of_zero_le hM.1
                        rw [hm] at x0 hdt
                        obtain ⟨v, hv⟩ : ∃ v, v = valZ left M[r] := ⟨_, rfl⟩
                        have hmn : m < n := by omega
                        have hmi : (m : Int) < (n : Int) := by omega
                        rw [← hL] at hrk
                        obtain ⟨g', hg', _, _, z0, fz0⟩ := hrk.o.cell1 (f := fun x : Int => .int .i64 x) (k := m) (by rw [hLl]; exact hmn)
                        obtain rfl : g = g' := by simpa using hg'
                        have hzm : L[m]'(by rw [hLl]; exact hmn) = v := by
                          rw [hv, ← hval, hm, val_nat, getD_at L m (by rw [hLl]; exact hmn)]
                        rw [hzm] at z0
                        rw [← hm, ← hv] at hdt
                        have hws : IntKind.i64.wrap (v - 1) = v - 1 := IntWalk.i64_in _ (by omega)
                        have hput := hrk.put rfl (k := m) (by rw [hLl]; exact hmn) (v - 1)
                        have hdt2 : (M.take (r + 1)).foldl (fun l x => l.set x.toNat (valZ l x - 1)) (left.set q 0) = L.set m (v - 1) := by
                          rw [hdt, hm, Int.toNat_natCast]
                        have hgot2 := hgot.low (p := ⟨g, m, none⟩) (show g < T + 1 by have := hrk.gt g rfl; omega) (.int .i64 (v - 1))
                        have HPUT := Lib.hid hput
                        have HDT := Lib.hid hdt2
                        have HG2 := Lib.hid hgot2
                        clear hrM hgg1 hgg2 hM hL hLl hnd hval hvb hdt hm hv hg' hzm hrk hput hdt2 hgot2 hgot
                        go_wp2_with fail
                        go_roundw
                        case rel => exact ⟨r + 1, by omega, by go_num, by rw [HDT.out]; exact HPUT.out, HG2.out⟩
                        case measure => simp [intOf]; omega
                      · obtain rfl : d = r := by omega
                        have htk : M.take d = M := List.take_of_length_le (by rw [HML.out]; exact Nat.le_refl _)
                        have hdf : decF left q M = (M.take d).foldl (fun l x => l.set x.toNat (valZ l x - 1)) (left.set q 0) := by
                          rw [htk]; rfl
                        rw [← hdf] at hrk
                        have hnx := HLI.out.next HNZ.out HVY.out (M := M) (by rw [HQ.out]; exact HPK.out)
                        rw [HQ.out, ← HE3.out] at hnx
                        have hpos := HLI.out.pos (q := q) (by rw [HLL.out]; exact hqn) (d := d) (by rw [← getD_at left q (by rw [HLL.out]; exact hqn) 0]; exact HYE.out) hd1
                        have HNX := Lib.hid hnx
                        have HRK := Lib.hid hrk
                        have HPOS := Lib.hid hpos
                        clear hrk hgot htk hdf hnx hpos hr hlt
                        go_wp2_with fail
                        go_roundg (gk0 - 2)
                        case measure => have := HPOS.out; omega
                        case rel => exact ⟨_, E3, Ae3, ce3, _, rfl, by rw [← HF0.out]; exact HNX.out, HRK.out⟩
end Go.Proofs.Ytlflnfelhndohaa
