/- The first row and the first ring of players: both functions of the program and the reference's. Conditions: the words read as a list; the table. -/
import Derived.Test.YtnpcbbdfpbnakaaDoorRowsA
import Derived.Test.YtnpcbbdfpbnakaaDoorRowsR
import Derived.Test.YtnpcbbdfpbnakaaDoorBeatsA
namespace Go.Proofs.YtnpcbbdfpbnakaaDoor
open Go.RowKit
attribute [local go_sem ↓] w_and w_or w_xor w_andNot w_and1 w_and255 w_xor1 w_or0 w_shl w_shl1 w_shr w_sub w_add w_sub1 w_add1
attribute [local go_sem] w_eq0 w_ne0 w_eq1 w_eq w_ne

theorem RowOk_nil (n : Nat) : RowOk n [] := ⟨List.nodup_nil, fun i h => by cases h⟩
theorem check_8 {l : List W} (h : beatsCheck l = 0) : l.length ≤ 8 := by
  unfold beatsCheck at h
  by_cases h8 : 8 < l.length
  · rw [if_pos h8] at h; cases h
  · omega
set_option maxRecDepth 100000 in
theorem beats_Row (A : Option Addr) (n c : Nat) (l : List W) (w : World) (hl : l.length = n) (hn : n ≤ maxLen) (hr : Els w w.heap.size 1 wcell A l) (htab : TabOk w) :
    Calls Tryd.prog 23 #[.slice A n c] w fun e w' => ∃ (R : Option Addr) (k cr : Nat) (er : Int), e = .returned (.tuple #[.slice R k cr, .int .i64 er]) ∧ Below w.heap.size w w' ∧ (beatsCheck l ≠ 0 → er = beatsCheck l ∧ k = 0) ∧ (beatsCheck l = 0 → er = 0 ∧ RowRes (rowF l false n n []) R k cr w') := by
  have HC := Lib.hid (beats_Check A n c l w hl hn hr)
  have HL := Lib.hid hl
  have HR := Lib.hid hr
  clear hl hr
  go_enter Tryd.func23, Tryd.ntmps23
  go_wp2_with fail
  refine HC.out.mono ?_
  clear HC
  rintro e v1 ⟨rfl, q, rfl⟩
  have HB1 : Hid (Below w.heap.size w (w.drewN q)) := Lib.hid (below_drewN (Below.refl _ w) q)
  by_cases h0 : beatsCheck l = 0
  · have h8 := check_8 h0
    rw [HL.out] at h8
    have H0 := Lib.hid h0
    have HK := Lib.hid (beats_list A n c l HL.out h8 false (fun h => by cases h) n [] none 0 0 (w.drewN q) rfl (by omega) (RowOk_nil n) (HR.out.drewN q) Els.nil (Nat.le_refl _) (fun _ => ⟨rfl, rfl⟩) (htab.block (Nat.le_refl _) rfl))
    rw [show leftW n [] = wSub (wShl w1 n) w1 from rfl] at HK
    rw [h0]
    clear h0
    unfold maxLen at hn
    go_wp2_with fail
    refine HK.out.mono ?_
    clear HK
    rintro e v2 ⟨R, k, cr, rfl, hb2, hres⟩
    have HB2 := Lib.hid (HB1.out.trans hb2)
    have HRES := Lib.hid hres
    clear hb2 hres
    go_wp2_with fail
    refine bodyPost_ret (v := .tuple #[.slice R k cr, .int .i64 0]) (by simp [results, Tryd.results23, go_sem]) rfl ?_
    exact ⟨R, k, cr, 0, rfl, HB2.out, fun h => absurd H0.out h, fun _ => ⟨rfl, HRES.out⟩⟩
  · have h1 : (beatsCheck l != 0) = true := by simpa using h0
    have H0 := Lib.hid h0
    obtain ⟨y, hy⟩ : ∃ y, y = beatsCheck l := ⟨_, rfl⟩
    rw [← hy] at h1 ⊢
    have HY := Lib.hid hy
    clear h0 hy
    go_wp2_with fail
    refine bodyPost_ret (v := .tuple #[.slice none 0 0, .int .i64 y]) (by simp [results, Tryd.results23, go_sem]) rfl ?_
    exact ⟨none, 0, 0, y, rfl, HB1.out, fun _ => ⟨HY.out, rfl⟩, fun h => absurd h H0.out⟩
set_option maxRecDepth 100000 in
theorem beats_Ring (A : Option Addr) (n c : Nat) (l : List W) (w : World) (hl : l.length = n) (hn : n ≤ maxLen) (hr : Els w w.heap.size 1 wcell A l) (htab : TabOk w) :
    Calls Tryd.prog 26 #[.slice A n c] w fun e w' => ∃ (R : Option Addr) (k cr : Nat) (er : Int), e = .returned (.tuple #[.slice R k cr, .int .i64 er]) ∧ Below w.heap.size w w' ∧ (beatsCheck l ≠ 0 → er = beatsCheck l ∧ k = 0) ∧
      (beatsCheck l = 0 → (n < 3 ∨ rowF l true n n [] = none → er = 5 ∧ k = 0) ∧ (¬ n < 3 → ∀ u, rowF l true n n [] = some u → er = 0 ∧ RowRes (some u) R k cr w')) := by
  have HC := Lib.hid (beats_Check A n c l w hl hn hr)
  have HL := Lib.hid hl
  have HR := Lib.hid hr
  clear hl hr
  go_enter Tryd.func26, Tryd.ntmps26
  go_wp2_with fail
  refine HC.out.mono ?_
  clear HC
  rintro e v1 ⟨rfl, q, rfl⟩
  have HB1 : Hid (Below w.heap.size w (w.drewN q)) := Lib.hid (below_drewN (Below.refl _ w) q)
  by_cases h0 : beatsCheck l = 0
  · have h8 := check_8 h0
    rw [HL.out] at h8
    have H0 := Lib.hid h0
    rw [h0]
    clear h0
    unfold maxLen at hn
    by_cases h3 : n < 3
    · go_wp2_with fail
      refine bodyPost_ret (v := .tuple #[.slice none 0 0, .int .i64 5]) (by simp [results, Tryd.results26, go_sem]) rfl ?_
      exact ⟨none, 0, 0, 5, rfl, HB1.out, fun h => absurd H0.out h, fun _ => ⟨fun _ => ⟨rfl, rfl⟩, fun h => absurd h3 h⟩⟩
    · have HK := Lib.hid (beats_list A n c l HL.out h8 true (fun _ => by omega) n [] none 0 0 (w.drewN q) rfl (by omega) (RowOk_nil n) (HR.out.drewN q) Els.nil (Nat.le_refl _) (fun _ => ⟨rfl, rfl⟩) (htab.block (Nat.le_refl _) rfl))
      rw [show leftW n [] = wSub (wShl w1 n) w1 from rfl] at HK
      go_wp2_with fail
      refine HK.out.mono ?_
      clear HK
      rintro e v2 ⟨R, k, cr, rfl, hb2, hres⟩
      have HB2 := Lib.hid (HB1.out.trans hb2)
      clear hb2
      cases hrow : rowF l true n n [] with
      | none =>
        rw [hrow] at hres
        obtain ⟨rfl, rfl, rfl⟩ := hres
        have HROW := Lib.hid hrow
        clear hrow
        have hnn : ∀ w, (binOp .eql 32 (.slice none 0 0) (.slice none 0 0)).run Tryd.prog w = .ok (.bool true) w := fun _ => by kernel_rfl
        go_wp2_with fail
        refine bodyPost_ret (v := .tuple #[.slice none 0 0, .int .i64 5]) (by simp [results, Tryd.results26, go_sem]) rfl ?_
        exact ⟨none, 0, 0, 5, rfl, HB2.out, fun h => absurd H0.out h, fun _ => ⟨fun _ => ⟨rfl, rfl⟩, (fun _ u hu => by rw [HROW.out] at hu; cases hu)⟩⟩
      | some u =>
        rw [hrow] at hres
        have hul := rowF_length l true n n [] u hrow
        obtain ⟨hk, he⟩ := hres
        obtain ⟨rb, ro, hR, _, _⟩ := he (by rw [intsOf, List.length_map]; simp at hul; omega)
        subst hR hk
        have HE := Lib.hid he
        have HROW := Lib.hid hrow
        clear he hrow hul
        have hnn : ∀ w, (binOp .eql 32 (.slice (some ⟨rb, ro, none⟩) u.length cr) (.slice none 0 0)).run Tryd.prog w = .ok (.bool false) w := fun _ => by kernel_rfl
        go_wp2_with fail
        refine bodyPost_ret (v := .tuple #[.slice (some ⟨rb, ro, none⟩) u.length cr, .int .i64 0]) (by simp [results, Tryd.results26, go_sem]) rfl ?_
        exact ⟨some ⟨rb, ro, none⟩, u.length, cr, 0, rfl, HB2.out, fun h => absurd H0.out h, fun _ => ⟨(fun h => by
          rcases h with h | h
          · exact absurd h h3
          · rw [HROW.out] at h; cases h), (fun _ u' hu => by rw [HROW.out] at hu; cases hu; exact ⟨rfl, rfl, HE.out⟩)⟩⟩
  · have h1 : (beatsCheck l != 0) = true := by simpa using h0
    have H0 := Lib.hid h0
    obtain ⟨y, hy⟩ : ∃ y, y = beatsCheck l := ⟨_, rfl⟩
    rw [← hy] at h1 ⊢
    have HY := Lib.hid hy
    clear h0 hy
    go_wp2_with fail
    refine bodyPost_ret (v := .tuple #[.slice none 0 0, .int .i64 y]) (by simp [results, Tryd.results26, go_sem]) rfl ?_
    exact ⟨none, 0, 0, y, rfl, HB1.out, fun _ => ⟨HY.out, rfl⟩, fun h => absurd h H0.out⟩
set_option maxRecDepth 100000 in
theorem ref_Row (A : Option Addr) (n c : Nat) (l : List W) (ring : Bool) (w : World) (hl : l.length = n) (h8 : n ≤ 8) (hr : Els w w.heap.size 1 wcell A l) :
    Calls Tryd.prog 25 #[.slice A n c, .bool ring] w fun e w' => ∃ (R : Option Addr) (k cr : Nat) (g : Bool), e = .returned (.tuple #[.slice R k cr, .bool g]) ∧ Below w.heap.size w w' ∧ RefRes (rowF l ring n n []) R k g w' := by
  have HK := Lib.hid (ref_rowOf A n c l hl h8 ring n [] none 0 0 w rfl (by omega) (RowOk_nil n) hr Els.nil)
  clear hl hr
  go_enter Tryd.func25, Tryd.ntmps25
  go_wp2_with fail
  refine HK.out.mono ?_
  clear HK
  rintro e v2 ⟨R, k, cr, g, rfl, hb2, hres⟩
  have HB2 := Lib.hid hb2
  have HRES := Lib.hid hres
  clear hb2 hres
  go_wp2_with fail
  refine bodyPost_ret (v := .tuple #[.slice R k cr, .bool g]) (by simp [results, Tryd.results25, go_sem]) rfl ?_
  exact ⟨R, k, cr, g, rfl, HB2.out, HRES.out⟩
end Go.Proofs.YtnpcbbdfpbnakaaDoor
