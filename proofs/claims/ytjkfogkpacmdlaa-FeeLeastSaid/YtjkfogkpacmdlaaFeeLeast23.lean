/- A way in memory: turned round in place; pushed on. Conditions: the way lies in a row of its own. -/
import Derived.Test.YtjkfogkpacmdlaaFeeLeast18
import Derived.Test.YtjkfogkpacmdlaaFeeLeast22
namespace Go.Proofs.Ytjkfogkpacmdlaa
open Go.RowKit

/-- A row of steps: the first n read as F tells. -/
def StpB (w : World) (h sz n : Nat) (F : Nat → Stp) : Prop :=
  ∃ cur : Array Value, Blk w h 77 cur ∧ cur.size = sz ∧ ∀ i, i < n → cur[i * 2]? = some (.int .i64 (F i).1) ∧ cur[i * 2 + 1]? = some (.bool (F i).2)
theorem StpB.held {w w' : World} {h sz n : Nat} {F : Nat → Stp} {ex : List Nat} (hs : StpB w h sz n F) (hh : Held ex w w') (hx : h ∉ ex) : StpB w' h sz n F := by
  obtain ⟨cur, hb, h1, h2⟩ := hs
  exact ⟨cur, hb.held hh hx, h1, h2⟩
theorem StpB.at_ {w : World} {h sz n : Nat} {F : Nat → Stp} (hs : StpB w h sz n F) {i : Nat} (hi : i < n) : w.cell? ⟨h, i * 2, none⟩ = some (.int .i64 (F i).1) ∧ w.cell? ⟨h, i * 2 + 1, none⟩ = some (.bool (F i).2) := by
  obtain ⟨cur, hb, h1, h2⟩ := hs
  exact ⟨(hb.cell _).trans (h2 i hi).1, (hb.cell _).trans (h2 i hi).2⟩
theorem StpB.lt {w : World} {h sz n : Nat} {F : Nat → Stp} (hs : StpB w h sz n F) : h < w.heap.size := by
  obtain ⟨cur, hb, _⟩ := hs
  exact hb.lt
theorem StpB.fr {w : World} {h sz n : Nat} {F : Nat → Stp} (hs : StpB w h sz n F) (i : Nat) : w.frozen? ⟨h, i, none⟩ = false := by
  obtain ⟨cur, hb, _⟩ := hs
  exact hb.frozen i
theorem StpB.of_eq {w : World} {h sz n : Nat} {F G : Nat → Stp} (hs : StpB w h sz n F) (e : ∀ i, i < n → F i = G i) : StpB w h sz n G := by
  obtain ⟨cur, hb, h1, h2⟩ := hs
  exact ⟨cur, hb, h1, fun i hi => by rw [← e i hi]; exact h2 i hi⟩
theorem StpB.put {w : World} {h sz n : Nat} {F : Nat → Stp} (hs : StpB w h sz n F) {i : Nat} (hi : i < n) (x : Stp) : StpB ((w.setCell ⟨h, i * 2, none⟩ (.int .i64 x.1)).setCell ⟨h, i * 2 + 1, none⟩ (.bool x.2)) h sz n (fun j => if j = i then x else F j) := by
  obtain ⟨cur, hb, h1, h2⟩ := hs
  refine ⟨_, (hb.put (i * 2) _).put (i * 2 + 1) _, by simpa using h1, fun j hj => ?_⟩
  have h3 := h2 j hj
  have h4 := h2 i hi
  have l1 := (Array.getElem?_eq_some_iff.1 h4.1).1
  have l2 := (Array.getElem?_eq_some_iff.1 h4.2).1
  simp only [Array.getElem?_setIfInBounds]
  by_cases hji : j = i
  · subst hji
    rw [if_neg (by omega), if_pos rfl, if_pos l1, if_pos rfl]
    simp [l2]
  · repeat rw [if_neg (by omega)]
    exact h3
def GoesB (w : World) (g : Nat) (gs : List Int) : Prop := Blk w g 2 (gs.map (Value.int .i64)).toArray
theorem GoesB.at_ {w : World} {g : Nat} {gs : List Int} (h : GoesB w g gs) {i : Nat} (hi : i < gs.length) : w.cell? ⟨g, i, none⟩ = some (.int .i64 (gs.getD i 0)) := by
  unfold GoesB at h
  rw [h.cell i]
  simp [List.getD_eq_getElem?_getD, List.getElem?_eq_getElem hi]
theorem GoesB.put {w : World} {g : Nat} {gs : List Int} (h : GoesB w g gs) (i : Nat) (x : Int) : GoesB (w.setCell ⟨g, i, none⟩ (.int .i64 x)) g (gs.set i x) := by
  have := Blk.put h i (.int .i64 x)
  unfold GoesB
  have e : ((gs.set i x).map (Value.int .i64)).toArray = (gs.map (Value.int .i64)).toArray.setIfInBounds i (.int .i64 x) := by
    rw [List.map_set]
    simp
  rw [e]
  exact this
theorem pushL_snoc (u : Int) (gs : List Int) (ws : List Stp) (x : Stp) : pushL u gs (ws ++ [x]) = push1 u (pushL u gs ws) x := by simp [pushL, List.foldl_append]

set_option maxRecDepth 100000 in
set_option maxHeartbeats 1000000 in
theorem flow_Push (P N g sz h k ck m c cg : Nat) (A : Option Addr) (gs : List Int) (ws : List Stp) (u : Int) (w : World) (hk : Blk w P 80 #[.int .i64 N, .slice A m c, .slice (some ⟨g, 0, none⟩) m cg]) (hg : GoesB w g gs) (hgl : gs.length = m) (hws : ws.length = k)
    (hway : StpB w h sz k (fun i => ws.getD i (0, false))) (hin : ∀ x ∈ ws, x.1 < m) (hb : ∀ j, j ≤ k → ∀ i, i < m → 0 ≤ (pushL u gs (ws.take j)).getD i 0 ∧ (pushL u gs (ws.take j)).getD i 0 ≤ 1048576) (hu : 0 ≤ u ∧ u ≤ 1048576) (hkb : k ≤ 100000) :
    Calls Try.prog 33 #[.pointer (some ⟨P, 0, none⟩), .slice (some ⟨h, 0, none⟩) k ck, .int .i64 u] w fun e w' => (∃ v, e = .returned v) ∧ Held [g] w w' ∧ GoesB w' g (pushL u gs ws) := by
  have hPg : P ≠ g := hk.differ hg (by decide)
  have hhg : h ≠ g := by
    obtain ⟨cur, hbb, _⟩ := hway
    exact hbb.differ hg (by decide)
  have HK := Lib.hid hk
  have HG := Lib.hid hg
  have HWAY := Lib.hid hway
  have HWS := Lib.hid hws
  have HGL := Lib.hid hgl
  have HB := Lib.hid hb
  have HIN := Lib.hid hin
  clear hk hg hway hws hb hgl hin
  go_enter Try.func33, Try.ntmps33
  go_wp2_with fail
  go_loopw [10] (fun s10 wr => ∃ j : Nat, j ≤ k ∧ s10 = .int .i64 j ∧ Held [g] w wr ∧ GoesB wr g (pushL u gs (ws.take j))) (fun s10 _ => k - (intOf s10).toNat)
  case atStart => exact ⟨0, Nat.zero_le _, rfl, Held.refl _ _, by rw [List.take_zero]; exact HG.out⟩
  case round =>
    clear HG
    rename World => wr
    obtain ⟨j, hj, rfl, hh, hg⟩ := hrel
    by_cases hlt : j < k
    · have hjl : j < ws.length := by rw [HWS.out]; exact hlt
      obtain ⟨x, hx⟩ : ∃ x, x = ws.getD j (0, false) := ⟨_, rfl⟩
      have hxm : x ∈ ws := by rw [hx, getD_at ws j hjl]; exact List.getElem_mem hjl
      have hxi := HIN.out x hxm
      have hway1 := HWAY.out.held hh (by simpa using hhg)
      have hk1 := HK.out.held hh (by simpa using hPg)
      obtain ⟨s0, s1⟩ := hway1.at_ hlt
      rw [← hx] at s0 s1
      have hsn : pushL u gs (ws.take (j + 1)) = push1 u (pushL u gs (ws.take j)) x := by
        rw [List.take_add_one, List.getElem?_eq_getElem hjl]
        show pushL u gs (ws.take j ++ [ws[j]]) = _
        rw [pushL_snoc, hx, getD_at ws j hjl]
      obtain ⟨rs, hrs⟩ : ∃ rs, rs = pushL u gs (ws.take j) := ⟨_, rfl⟩
      have hrl : rs.length = m := by rw [hrs, pushL_length, HGL.out]
      have hbi := HB.out j (by omega) x.1 hxi
      rw [← hrs] at hg hsn hbi
      have hbn := HB.out (j + 1) (by omega) x.1 hxi
      rw [hsn] at hbn
      have hgc := hg.at_ (i := x.1) (by rw [hrl]; exact hxi)
      obtain ⟨i, b⟩ := x
      obtain ⟨q, hq⟩ : ∃ q, q = rs.getD i 0 := ⟨_, rfl⟩
      simp only at s0 s1 hxi hgc hbi hbn hsn
      rw [← hq] at hgc hbi
      have hPl := hk1.lt
      have hgl2 : g < wr.heap.size := Blk.lt hg
      have hbx := Blk.new wr 77 #[.int .i64 i, .bool b]
      obtain ⟨V, hV⟩ : ∃ V, V = wr.alloc (.cells #[.int .i64 i, .bool b] 77) := ⟨_, rfl⟩
      have hk2 : Blk V P 80 #[.int .i64 N, .slice A m c, .slice (some ⟨g, 0, none⟩) m cg] := by rw [hV]; exact hk1.alloc _
      have hg2 : GoesB V g rs := by rw [hV]; exact Blk.alloc hg _
      have hh2 : Held [g] w V := by rw [hV]; exact hh.alloc _
      rw [← hV] at hbx
      obtain ⟨Z, hZ⟩ : ∃ Z, Z = wr.heap.size := ⟨_, rfl⟩
      rw [← hZ] at hbx
      have x0 := hbx.cell 0
      have x1 := hbx.cell 1
      have p2 := hk2.cell 2
      have g2 : V.cell? ⟨g, i, none⟩ = some (.int .i64 q) := by rw [hq]; exact hg2.at_ (by rw [hrl]; exact hxi)
      have f2 : V.frozen? ⟨g, i, none⟩ = false := Blk.frozen hg2 i
      have HH2 := Lib.hid hh2
      have HG2 := Lib.hid hg2
      have HSN := Lib.hid hsn
      have HV := Lib.hid hV
      have HZ := Lib.hid hZ
      have HRS := Lib.hid hrs
      have HQ := Lib.hid hq
      have HX := Lib.hid hx
      clear hh hg hway1 hk1 hsn hgc hbx hk2 hg2 hh2 hV hZ hrs hq hx hxm
      cases b
      · have hwq : IntKind.i64.wrap (q + u) = q + u := IntWalk.i64_in _ (by omega)
        have hp1 : push1 u rs (i, false) = rs.set i (q + u) := by rw [HQ.out]; rfl
        go_wp2_with fail
        rw [← HV.out, ← HZ.out]
        refine region_plain 11 12 (fun w' => w' = V.drew) (by kernel_rfl) rfl ?_
        refine anyC_reads (by kernel_rfl) [0, 1, 2, 3, 4, 5, 6, 7, 8] ?opl ?ohl 3 _ _ _ (by kernel_rfl) ?okk
        case ohl => (simp only [List.filterMap_cons, List.filterMap_nil, List.getElem?_toArray, List.getElem?_cons_zero, List.getElem?_cons_succ]; try rfl)
        repeat (
          refine readC_step (v := ?_) rfl (fun w' hw' => ?_) ?_
          rotate_left
          focus (subst hw'; go_simp; try with_reducible rfl)
          go_simp)
        refine readC_nil ?_
        refine anyC_one (i := 9) (by kernel_rfl) rfl rfl (.inr rfl) ?_
        go_simp
        refine anyC_one (i := 10) (by kernel_rfl) rfl rfl (.inr rfl) ?_
        go_simp
        refine anyC_one (i := 11) (by kernel_rfl) rfl rfl (.inr rfl) ?_
        go_simp
        refine anyC_end (by kernel_rfl) (.inl rfl) ?_
        have hg3 : GoesB (V.drew.setCell ⟨g, i, none⟩ (.int .i64 (q + u))) g (rs.set i (q + u)) := GoesB.put (Blk.drew HG2.out) i (q + u)
        have hh3 : Held [g] w (V.drew.setCell ⟨g, i, none⟩ (.int .i64 (q + u))) := HH2.out.drew1.setCell (p := ⟨g, i, none⟩) (by simp) _
        have HG3 := Lib.hid hg3
        have HH3 := Lib.hid hh3
        have HP1 := Lib.hid hp1
        have hwj : IntKind.i64.wrap ((j : Int) + 1) = (j : Int) + 1 := IntWalk.i64_in _ (by omega)
        clear hg3 hh3 hp1 x0 x1 p2 g2 f2
        go_wp2_with fail
        go_roundw
        case rel => exact ⟨j + 1, by omega, by simp, HH3.out, by rw [HSN.out, HP1.out]; exact HG3.out⟩
        case measure => first | (simp [intOf]; done) | (simp [intOf]; omega)
      · have hwq : IntKind.i64.wrap (q - u) = q - u := IntWalk.i64_in _ (by omega)
        have hp1 : push1 u rs (i, true) = rs.set i (q - u) := by rw [HQ.out]; rfl
        go_wp2_with fail
        rw [← HV.out, ← HZ.out]
        refine region_plain 11 12 (fun w' => w' = V.drew) (by kernel_rfl) rfl ?_
        refine anyC_reads (by kernel_rfl) [0, 1, 2, 3, 4, 5, 6, 7, 8] ?opm ?ohm 3 _ _ _ (by kernel_rfl) ?okm
        case ohm => (simp only [List.filterMap_cons, List.filterMap_nil, List.getElem?_toArray, List.getElem?_cons_zero, List.getElem?_cons_succ]; try rfl)
        repeat (
          refine readC_step (v := ?_) rfl (fun w' hw' => ?_) ?_
          rotate_left
          focus (subst hw'; go_simp; try with_reducible rfl)
          go_simp)
        refine readC_nil ?_
        refine anyC_one (i := 9) (by kernel_rfl) rfl rfl (.inr rfl) ?_
        go_simp
        refine anyC_one (i := 10) (by kernel_rfl) rfl rfl (.inr rfl) ?_
        go_simp
        refine anyC_one (i := 11) (by kernel_rfl) rfl rfl (.inr rfl) ?_
        go_simp
        refine anyC_end (by kernel_rfl) (.inl rfl) ?_
        have hg3 : GoesB (V.drew.setCell ⟨g, i, none⟩ (.int .i64 (q - u))) g (rs.set i (q - u)) := GoesB.put (Blk.drew HG2.out) i (q - u)
        have hh3 : Held [g] w (V.drew.setCell ⟨g, i, none⟩ (.int .i64 (q - u))) := HH2.out.drew1.setCell (p := ⟨g, i, none⟩) (by simp) _
        have HG3 := Lib.hid hg3
        have HH3 := Lib.hid hh3
        have HP1 := Lib.hid hp1
        have hwj : IntKind.i64.wrap ((j : Int) + 1) = (j : Int) + 1 := IntWalk.i64_in _ (by omega)
        clear hg3 hh3 hp1 x0 x1 p2 g2 f2
        go_wp2_with fail
        go_roundw
        case rel => exact ⟨j + 1, by omega, by simp, HH3.out, by rw [HSN.out, HP1.out]; exact HG3.out⟩
        case measure => first | (simp [intOf]; done) | (simp [intOf]; omega)
    · obtain rfl : j = k := by omega
      go_wp2_with fail
      go_end0
      exact ⟨⟨_, rfl⟩, hh, by rw [← HWS.out, List.take_length] at hg; exact hg⟩
end Go.Proofs.Ytjkfogkpacmdlaa
