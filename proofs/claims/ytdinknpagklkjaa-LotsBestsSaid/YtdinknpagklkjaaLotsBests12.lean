/- A way in memory: turned round in place; pushed on. Conditions: the way lies in a row of its own. -/
import Derived.Test.YtdinknpagklkjaaLotsBests10
import Derived.Test.YtdinknpagklkjaaLotsBests5
import Derived.Test.YtdinknpagklkjaaLotsBests6
import Derived.Test.YtdinknpagklkjaaLotsBests3
import Derived.Test.YtdinknpagklkjaaLotsBests9
import Derived.ArgAppend
import Derived.Test.YtdinknpagklkjaaLotsBests1
namespace Go.Proofs.Ytdinknpagklkjaa
open Go.RowKit

/-- A row of steps: the first n read as F tells. -/
def StpB (w : World) (h sz n : Nat) (F : Nat → Stp) : Prop :=
  ∃ cur : Array Value, Blk w h 116 cur ∧ cur.size = sz ∧ ∀ i, i < n → cur[i * 2]? = some (.int .i64 (F i).1) ∧ cur[i * 2 + 1]? = some (.bool (F i).2)
theorem StpB.held {w w' : World} {h sz n : Nat} {F : Nat → Stp} {ex : List Nat} (hs : StpB w h sz n F) (hh : Held ex w w') (hx : h ∉ ex) : StpB w' h sz n F := by
  obtain ⟨cur, hb, h1, h2⟩ := hs
  exact ⟨cur, hb.held hh hx, h1, h2⟩
theorem StpB.at_ {w : World} {h sz n : Nat} {F : Nat → Stp} (hs : StpB w h sz n F) {i : Nat} (hi : i < n) : w.cell? ⟨h, i * 2, none⟩ = some (.int .i64 (F i).1) ∧ w.cell? ⟨h, i * 2 + 1, none⟩ = some (.bool (F i).2) := by
  obtain ⟨cur, hb, h1, h2⟩ := hs
  exact ⟨(hb.cell _).trans (h2 i hi).1, (hb.cell _).trans (h2 i hi).2⟩
theorem StpB.lt {w : World} {h sz n : Nat} {F : Nat → Stp} (hs : StpB w h sz n F) : h < w.heap.size := by
  obtain ⟨cur, hb, _⟩ := hs
  exact hb.lt
theorem StpB.fr {w : World} {h sz n : Nat} {F : Nat → Stp} (hs : StpB w h sz n F) (i : Nat) : w.frozen? ⟨h, i, none⟩ = false := by
  obtain ⟨cur, hb, _⟩ := hs
  exact hb.frozen i
theorem StpB.of_eq {w : World} {h sz n : Nat} {F G : Nat → Stp} (hs : StpB w h sz n F) (e : ∀ i, i < n → F i = G i) : StpB w h sz n G := by
  obtain ⟨cur, hb, h1, h2⟩ := hs
  exact ⟨cur, hb, h1, fun i hi => by rw [← e i hi]; exact h2 i hi⟩
theorem StpB.put {w : World} {h sz n : Nat} {F : Nat → Stp} (hs : StpB w h sz n F) {i : Nat} (hi : i < n) (x : Stp) : StpB ((w.setCell ⟨h, i * 2, none⟩ (.int .i64 x.1)).setCell ⟨h, i * 2 + 1, none⟩ (.bool x.2)) h sz n (fun j => if j = i then x else F j) := by
  obtain ⟨cur, hb, h1, h2⟩ := hs
  refine ⟨_, (hb.put (i * 2) _).put (i * 2 + 1) _, by simpa using h1, fun j hj => ?_⟩
  have h3 := h2 j hj
  have h4 := h2 i hi
  have l1 := (Array.getElem?_eq_some_iff.1 h4.1).1
  have l2 := (Array.getElem?_eq_some_iff.1 h4.2).1
  simp only [Array.getElem?_setIfInBounds]
  by_cases hji : j = i
  · subst hji
    rw [if_neg (by omega), if_pos rfl, if_pos l1, if_pos rfl]
    simp [l2]
  · repeat rw [if_neg (by omega)]
    exact h3
def GoesB (w : World) (g : Nat) (gs : List Int) : Prop := Blk w g 2 (gs.map (Value.int .i64)).toArray
theorem GoesB.at_ {w : World} {g : Nat} {gs : List Int} (h : GoesB w g gs) {i : Nat} (hi : i < gs.length) : w.cell? ⟨g, i, none⟩ = some (.int .i64 (gs.getD i 0)) := by
  unfold GoesB at h
  rw [h.cell i]
  simp [List.getD_eq_getElem?_getD, List.getElem?_eq_getElem hi]
theorem GoesB.put {w : World} {g : Nat} {gs : List Int} (h : GoesB w g gs) (i : Nat) (x : Int) : GoesB (w.setCell ⟨g, i, none⟩ (.int .i64 x)) g (gs.set i x) := by
  have := Blk.put h i (.int .i64 x)
  unfold GoesB
  have e : ((gs.set i x).map (Value.int .i64)).toArray = (gs.map (Value.int .i64)).toArray.setIfInBounds i (.int .i64 x) := by
    rw [List.map_set]
    simp
  rw [e]
  exact this
theorem pushL_snoc (u : Int) (gs : List Int) (ws : List Stp) (x : Stp) : pushL u gs (ws ++ [x]) = push1 u (pushL u gs ws) x := by simp [pushL, List.foldl_append]

set_option maxRecDepth 100000 in
set_option maxHeartbeats 1000000 in
theorem flow_Push (P N g sz h k ck m c cg : Nat) (A : Option Addr) (gs : List Int) (ws : List Stp) (u : Int) (w : World) (hk : Blk w P 119 #[.int .i64 N, .slice A m c, .slice (some ⟨g, 0, none⟩) m cg]) (hg : GoesB w g gs) (hgl : gs.length = m) (hws : ws.length = k)
    (hway : StpB w h sz k (fun i => ws.getD i (0, false))) (hin : ∀ x ∈ ws, x.1 < m) (hb : ∀ j, j ≤ k → ∀ i, i < m → 0 ≤ (pushL u gs (ws.take j)).getD i 0 ∧ (pushL u gs (ws.take j)).getD i 0 ≤ 1048576) (hu : 0 ≤ u ∧ u ≤ 1048576) (hkb : k ≤ 100000) :
    Calls Try.prog 60 #[.pointer (some ⟨P, 0, none⟩), .slice (some ⟨h, 0, none⟩) k ck, .int .i64 u] w fun e w' => (∃ v, e = .returned v) ∧ Held [g] w w' ∧ GoesB w' g (pushL u gs ws) := by
  have hPg : P ≠ g := hk.differ hg (by decide)
  have hhg : h ≠ g := by
    obtain ⟨cur, hbb, _⟩ := hway
    exact hbb.differ hg (by decide)
  have HK := Lib.hid hk
  have HG := Lib.hid hg
  have HWAY := Lib.hid hway
  have HWS := Lib.hid hws
  have HGL := Lib.hid hgl
  have HB := Lib.hid hb
  have HIN := Lib.hid hin
  clear hk hg hway hws hb hgl hin
  go_enter Try.func60, Try.ntmps60
  go_wp2_with fail
  go_loopw [10] (fun s10 wr => ∃ j : Nat, j ≤ k ∧ s10 = .int .i64 j ∧ Held [g] w wr ∧ GoesB wr g (pushL u gs (ws.take j))) (fun s10 _ => k - (intOf s10).toNat)
  case atStart => exact ⟨0, Nat.zero_le _, rfl, Held.refl _ _, by rw [List.take_zero]; exact HG.out⟩
  case round =>
    clear HG
    rename World => wr
    obtain ⟨j, hj, rfl, hh, hg⟩ := hrel
    by_cases hlt : j < k
    · have hjl : j < ws.length := by rw [HWS.out]; exact hlt
      obtain ⟨x, hx⟩ : ∃ x, x = ws.getD j (0, false) := ⟨_, rfl⟩
      have hxm : x ∈ ws := by rw [hx, getD_at ws j hjl]; exact List.getElem_mem hjl
      have hxi := HIN.out x hxm
      have hway1 := HWAY.out.held hh (by simpa using hhg)
      have hk1 := HK.out.held hh (by simpa using hPg)
      obtain ⟨s0, s1⟩ := hway1.at_ hlt
      rw [← hx] at s0 s1
      have hsn : pushL u gs (ws.take (j + 1)) = push1 u (pushL u gs (ws.take j)) x := by
        rw [List.take_add_one, List.getElem?_eq_getElem hjl]
        show pushL u gs (ws.take j ++ [ws[j]]) = _
        rw [pushL_snoc, hx, getD_at ws j hjl]
      obtain ⟨rs, hrs⟩ : ∃ rs, rs = pushL u gs (ws.take j) := ⟨_, rfl⟩
      have hrl : rs.length = m := by rw [hrs, pushL_length, HGL.out]
      have hbi := HB.out j (by omega) x.1 hxi
      rw [← hrs] at hg hsn hbi
      have hbn := HB.out (j + 1) (by omega) x.1 hxi
      rw [hsn] at hbn
      have hgc := hg.at_ (i := x.1) (by rw [hrl]; exact hxi)
      obtain ⟨i, b⟩ := x
      obtain ⟨q, hq⟩ : ∃ q, q = rs.getD i 0 := ⟨_, rfl⟩
      simp only at s0 s1 hxi hgc hbi hbn hsn
      rw [← hq] at hgc hbi
      have hPl := hk1.lt
      have hgl2 : g < wr.heap.size := Blk.lt hg
      have hbx := Blk.new wr 116 #[.int .i64 i, .bool b]
      obtain ⟨V, hV⟩ : ∃ V, V = wr.alloc (.cells #[.int .i64 i, .bool b] 116) := ⟨_, rfl⟩
      have hk2 : Blk V P 119 #[.int .i64 N, .slice A m c, .slice (some ⟨g, 0, none⟩) m cg] := by rw [hV]; exact hk1.alloc _
      have hg2 : GoesB V g rs := by rw [hV]; exact Blk.alloc hg _
      have hh2 : Held [g] w V := by rw [hV]; exact hh.alloc _
      rw [← hV] at hbx
      obtain ⟨Z, hZ⟩ : ∃ Z, Z = wr.heap.size := ⟨_, rfl⟩
      rw [← hZ] at hbx
      have x0 := hbx.cell 0
      have x1 := hbx.cell 1
      have p2 := hk2.cell 2
      have g2 : V.cell? ⟨g, i, none⟩ = some (.int .i64 q) := by rw [hq]; exact hg2.at_ (by rw [hrl]; exact hxi)
      have f2 : V.frozen? ⟨g, i, none⟩ = false := Blk.frozen hg2 i
      have HH2 := Lib.hid hh2
      have HG2 := Lib.hid hg2
      have HSN := Lib.hid hsn
      have HV := Lib.hid hV
      have HZ := Lib.hid hZ
      have HRS := Lib.hid hrs
      have HQ := Lib.hid hq
      have HX := Lib.hid hx
      clear hh hg hway1 hk1 hsn hgc hbx hk2 hg2 hh2 hV hZ hrs hq hx hxm
      cases b
      · have hwq : IntKind.i64.wrap (q + u) = q + u := IntWalk.i64_in _ (by omega)
        have hp1 : push1 u rs (i, false) = rs.set i (q + u) := by rw [HQ.out]; rfl
        go_wp2_with fail
        rw [← HV.out, ← HZ.out]
        refine region_plain 11 12 (fun w' => w' = V.drew) (by kernel_rfl) rfl ?_
        refine anyC_reads (by kernel_rfl) [0, 1, 2, 3, 4, 5, 6, 7, 8] ?opl ?ohl 3 _ _ _ (by kernel_rfl) ?okk
        case ohl => (simp only [List.filterMap_cons, List.filterMap_nil, List.getElem?_toArray, List.getElem?_cons_zero, List.getElem?_cons_succ]; try rfl)
        repeat (
          refine readC_step (v := ?_) rfl (fun w' hw' => ?_) ?_
          rotate_left
          focus (subst hw'; go_simp; try with_reducible rfl)
          go_simp)
        refine readC_nil ?_
        refine anyC_one (i := 9) (by kernel_rfl) rfl rfl (.inr rfl) ?_
        go_simp
        refine anyC_one (i := 10) (by kernel_rfl) rfl rfl (.inr rfl) ?_
        go_simp
        refine anyC_one (i := 11) (by kernel_rfl) rfl rfl (.inr rfl) ?_
        go_simp
        refine anyC_end (by kernel_rfl) (.inl rfl) ?_
        have hg3 : GoesB (V.drew.setCell ⟨g, i, none⟩ (.int .i64 (q + u))) g (rs.set i (q + u)) := GoesB.put (Blk.drew HG2.out) i (q + u)
        have hh3 : Held [g] w (V.drew.setCell ⟨g, i, none⟩ (.int .i64 (q + u))) := HH2.out.drew1.setCell (p := ⟨g, i, none⟩) (by simp) _
        have HG3 := Lib.hid hg3
        have HH3 := Lib.hid hh3
        have HP1 := Lib.hid hp1
        have hwj : IntKind.i64.wrap ((j : Int) + 1) = (j : Int) + 1 := IntWalk.i64_in _ (by omega)
        clear hg3 hh3 hp1 x0 x1 p2 g2 f2
        go_wp2_with fail
        go_roundw
        case rel => exact ⟨j + 1, by omega, by simp, HH3.out, by rw [HSN.out, HP1.out]; exact HG3.out⟩
        case measure => first | (simp [intOf]; done) | (simp [intOf]; omega)
      · have hwq : IntKind.i64.wrap (q - u) = q - u := IntWalk.i64_in _ (by omega)
        have hp1 : push1 u rs (i, true) = rs.set i (q - u) := by rw [HQ.out]; rfl
        go_wp2_with fail
        rw [← HV.out, ← HZ.out]
        refine region_plain 11 12 (fun w' => w' = V.drew) (by kernel_rfl) rfl ?_
        refine anyC_reads (by kernel_rfl) [0, 1, 2, 3, 4, 5, 6, 7, 8] ?opm ?ohm 3 _ _ _ (by kernel_rfl) ?okm
        case ohm => (simp only [List.filterMap_cons, List.filterMap_nil, List.getElem?_toArray, List.getElem?_cons_zero, List.getElem?_cons_succ]; try rfl)
        repeat (
          refine readC_step (v := ?_) rfl (fun w' hw' => ?_) ?_
          rotate_left
          focus (subst hw'; go_simp; try with_reducible rfl)
          go_simp)
        refine readC_nil ?_
        refine anyC_one (i := 9) (by kernel_rfl) rfl rfl (.inr rfl) ?_
        go_simp
        refine anyC_one (i := 10) (by kernel_rfl) rfl rfl (.inr rfl) ?_
        go_simp
        refine anyC_one (i := 11) (by kernel_rfl) rfl rfl (.inr rfl) ?_
        go_simp
        refine anyC_end (by kernel_rfl) (.inl rfl) ?_
        have hg3 : GoesB (V.drew.setCell ⟨g, i, none⟩ (.int .i64 (q - u))) g (rs.set i (q - u)) := GoesB.put (Blk.drew HG2.out) i (q - u)
        have hh3 : Held [g] w (V.drew.setCell ⟨g, i, none⟩ (.int .i64 (q - u))) := HH2.out.drew1.setCell (p := ⟨g, i, none⟩) (by simp) _
        have HG3 := Lib.hid hg3
        have HH3 := Lib.hid hh3
        have HP1 := Lib.hid hp1
        have hwj : IntKind.i64.wrap ((j : Int) + 1) = (j : Int) + 1 := IntWalk.i64_in _ (by omega)
        clear hg3 hh3 hp1 x0 x1 p2 g2 f2
        go_wp2_with fail
        go_roundw
        case rel => exact ⟨j + 1, by omega, by simp, HH3.out, by rw [HSN.out, HP1.out]; exact HG3.out⟩
        case measure => first | (simp [intOf]; done) | (simp [intOf]; omega)
    · obtain rfl : j = k := by omega
      go_wp2_with fail
      go_end0
      exact ⟨⟨_, rfl⟩, hh, by rw [← HWS.out, List.take_length] at hg; exact hg⟩
end Go.Proofs.Ytdinknpagklkjaa

/- Two operations of a drawn region ready at once. Conditions: none. -/
namespace Go.Proofs.Ytdinknpagklkjaa
open Go.RowKit Go.Shelf
section
variable {P : Program} {md : Region.Mode} {ops : Array Oper} {z : Nat} {C : World → Prop} {Q : Act → World → Prop}
theorem anyD_two {i j : Nat} {oi oj : Oper} {fuel : Nat} {listed : Array Bool} {a : Act} {w : World} (hr : Region.ready md ops listed = [i, j]) (hi : ops[i]? = some oi) (hj : ops[j]? = some oj) (hwi : Region.wanted oi (yielded ops a.tmps) = true) (hwj : Region.wanted oj (yielded ops a.tmps) = true) (hC : listed.getD z false = true ∨ C w)
    (h1 : oi.wp P a w (anyC P md ops z C Q fuel (listed.setIfInBounds i true)) noP) (h2 : oj.wp P a w (anyC P md ops z C Q fuel (listed.setIfInBounds j true)) noP) : anyC P md ops z C Q (fuel + 1) listed a w :=
  ⟨hC, fun h0 => (by rw [hr] at h0; cases h0), fun k hk => by
    rw [hr] at hk
    simp only [List.mem_cons, List.not_mem_nil, or_false] at hk
    rcases hk with rfl | rfl
    · exact ⟨oi, hi, .inl ⟨hwi, h1⟩⟩
    · exact ⟨oj, hj, .inl ⟨hwj, h2⟩⟩⟩
end
end Go.Proofs.Ytdinknpagklkjaa

/- A way in memory turned round in place. Conditions: it lies in a row of its own. -/
namespace Go.Proofs.Ytdinknpagklkjaa
open Go.RowKit

def rvS (k d : Nat) (F : Nat → Stp) (i : Nat) : Stp := if i < d ∨ k ≤ i + d then F (k - 1 - i) else F i
set_option maxRecDepth 100000 in
set_option maxHeartbeats 2000000 in
theorem steps_Reverse (h sz k ck : Nat) (F : Nat → Stp) (w : World) (hs : StpB w h sz k F) (hk : k ≤ 100000) :
    Calls Try.prog 122 #[.slice (some ⟨h, 0, none⟩) k ck] w fun e w' => (∃ v, e = .returned v) ∧ Held [h] w w' ∧ StpB w' h sz k (fun i => F (k - 1 - i)) := by
  have HS := Lib.hid hs
  clear hs
  have hwk : IntKind.i64.wrap ((k : Int) - 1) = (k : Int) - 1 := IntWalk.i64_in _ (by omega)
  go_enter Try.func122, Try.ntmps122
  go_wp2_with fail
  go_loopw [2, 3] (fun s2 s3 wr => ∃ d : Nat, d ≤ k ∧ s2 = .int .i64 d ∧ s3 = .int .i64 ((k : Int) - 1 - d) ∧ Held [h] w wr ∧ StpB wr h sz k (rvS k d F)) (fun s2 _ _ => k - (intOf s2).toNat)
  case atStart => exact ⟨0, Nat.zero_le _, rfl, by simp, Held.refl _ _, HS.out.of_eq fun i hi => by unfold rvS; rw [if_neg (by omega)]⟩
  case round =>
    clear HS
    rename World => wr
    obtain ⟨d, hd, rfl, rfl, hh, hs⟩ := hrel
    by_cases hlt : d < k - 1 - d
    · obtain ⟨e, he⟩ : ∃ e, e = k - 1 - d := ⟨_, rfl⟩
      have hek : (k : Int) - 1 - d = (e : Int) := by omega
      rw [hek]
      have hde : (d : Int) < e := by omega
      obtain ⟨d0, d1⟩ := hs.at_ (i := d) (by omega)
      obtain ⟨e0, e1⟩ := hs.at_ (i := e) (by omega)
      obtain ⟨xd, hxd⟩ : ∃ x, x = rvS k d F d := ⟨_, rfl⟩
      obtain ⟨xe, hxe⟩ : ∃ x, x = rvS k d F e := ⟨_, rfl⟩
      rw [← hxd] at d0 d1
      rw [← hxe] at e0 e1
      have hput := (StpB.put hs (i := d) (by omega) xe).put (i := e) (by omega) xd
      have fd := hs.fr (d * 2)
      have fd1 := hs.fr (d * 2 + 1)
      have fe := hs.fr (e * 2)
      have fe1 := hs.fr (e * 2 + 1)
      have hdn : d * 2 ≠ e * 2 := by omega
      have hh2 : Held [h] w ((((wr.setCell ⟨h, d * 2, none⟩ (.int .i64 xe.1)).setCell ⟨h, d * 2 + 1, none⟩ (.bool xe.2)).setCell ⟨h, e * 2, none⟩ (.int .i64 xd.1)).setCell ⟨h, e * 2 + 1, none⟩ (.bool xd.2)) :=
        (((hh.setCell (p := ⟨h, d * 2, none⟩) (by simp) _).setCell (p := ⟨h, d * 2 + 1, none⟩) (by simp) _).setCell (p := ⟨h, e * 2, none⟩) (by simp) _).setCell (p := ⟨h, e * 2 + 1, none⟩) (by simp) _
      have HXD : Hid (xd = F d) := Lib.hid (by rw [hxd]; unfold rvS; rw [if_neg (by omega)])
      have HXE : Hid (xe = F e) := Lib.hid (by rw [hxe]; unfold rvS; rw [if_neg (by omega)])
      have HP := Lib.hid hput
      have HE := Lib.hid he
      have HH2 := Lib.hid hh2
      have hwd : IntKind.i64.wrap ((d : Int) + 1) = (d : Int) + 1 := IntWalk.i64_in _ (by omega)
      have hwe : IntKind.i64.wrap ((e : Int) - 1) = (e : Int) - 1 := IntWalk.i64_in _ (by omega)
      have hek2 : e < k := by omega
      have hdk2 : d < k := by omega
      obtain ⟨xd1, xd2⟩ := xd
      obtain ⟨xe1, xe2⟩ := xe
      simp only at d0 d1 e0 e1
      clear hput hs hxd hxe he hek hh hh2
      go_wp2_with fail
      refine region_plain 99 16 (fun _ => True) (by kernel_rfl) rfl ?_
      refine anyC_reads (by kernel_rfl) [0, 1, 2, 3, 4, 5, 6, 8, 9, 10] ?opl ?ohl 6 _ _ _ (by kernel_rfl) ?okk
      case ohl => (simp only [List.filterMap_cons, List.filterMap_nil, List.getElem?_toArray, List.getElem?_cons_zero, List.getElem?_cons_succ]; try rfl)
      repeat (
        refine readC_step (v := ?_) rfl (fun w' hw' => ?_) ?_
        rotate_left
        focus (go_simp; try with_reducible rfl)
        go_simp)
      refine readC_nil ?_
      refine anyD_two (i := 7) (j := 11) (by kernel_rfl) rfl rfl rfl rfl (.inr trivial) ?_ ?_
      · go_simp
        refine anyC_one (i := 11) (by kernel_rfl) rfl rfl (.inr trivial) ?_
        go_simp
        refine anyC_one (i := 12) (by kernel_rfl) rfl rfl (.inr trivial) ?_
        go_simp
        refine anyC_one (i := 13) (by kernel_rfl) rfl rfl (.inr trivial) ?_
        go_simp
        refine anyC_one (i := 14) (by kernel_rfl) rfl rfl (.inr trivial) ?_
        go_simp
        refine anyC_one (i := 15) (by kernel_rfl) rfl rfl (.inr trivial) ?_
        go_simp
        refine anyC_end (by kernel_rfl) (.inr trivial) ?_
        have hwd : IntKind.i64.wrap ((d : Int) + 1) = (d : Int) + 1 := IntWalk.i64_in _ (by omega)
        have hwe : IntKind.i64.wrap ((e : Int) - 1) = (e : Int) - 1 := IntWalk.i64_in _ (by omega)
        go_wp2_with fail
        go_roundw
        case rel => exact ⟨d + 1, by omega, by simp, by (have := HE.out; simp; omega), HH2.out.drew1, HP.out.of_eq fun i hi => (by
          have hed := HE.out
          unfold rvS
          by_cases h1 : i = e
          · subst h1; rw [if_pos rfl, if_pos (by omega), HXD.out]; congr 1; omega
          · rw [if_neg h1]
            by_cases h2 : i = d
            · subst h2; rw [if_pos rfl, if_pos (by omega), HXE.out, hed]
            · rw [if_neg h2]
              by_cases h3 : i < d ∨ k ≤ i + d
              · rw [if_pos h3, if_pos (by omega)]
              · rw [if_neg h3, if_neg (by omega)])⟩
        case measure => first | (simp [intOf]; done) | (simp [intOf]; omega)
      · go_simp
        refine anyC_one (i := 7) (by kernel_rfl) rfl rfl (.inr trivial) ?_
        go_simp
        refine anyC_one (i := 12) (by kernel_rfl) rfl rfl (.inr trivial) ?_
        go_simp
        refine anyC_one (i := 13) (by kernel_rfl) rfl rfl (.inr trivial) ?_
        go_simp
        refine anyC_one (i := 14) (by kernel_rfl) rfl rfl (.inr trivial) ?_
        go_simp
        refine anyC_one (i := 15) (by kernel_rfl) rfl rfl (.inr trivial) ?_
        go_simp
        refine anyC_end (by kernel_rfl) (.inr trivial) ?_
        have hwd : IntKind.i64.wrap ((d : Int) + 1) = (d : Int) + 1 := IntWalk.i64_in _ (by omega)
        have hwe : IntKind.i64.wrap ((e : Int) - 1) = (e : Int) - 1 := IntWalk.i64_in _ (by omega)
        go_wp2_with fail
        go_roundw
        case rel => exact ⟨d + 1, by omega, by simp, by (have := HE.out; simp; omega), HH2.out.drew1, HP.out.of_eq fun i hi => (by
          have hed := HE.out
          unfold rvS
          by_cases h1 : i = e
          · subst h1; rw [if_pos rfl, if_pos (by omega), HXD.out]; congr 1; omega
          · rw [if_neg h1]
            by_cases h2 : i = d
            · subst h2; rw [if_pos rfl, if_pos (by omega), HXE.out, hed]
            · rw [if_neg h2]
              by_cases h3 : i < d ∨ k ≤ i + d
              · rw [if_pos h3, if_pos (by omega)]
              · rw [if_neg h3, if_neg (by omega)])⟩
        case measure => first | (simp [intOf]; done) | (simp [intOf]; omega)
    · have hneg : ¬ (d : Int) < (k : Int) - 1 - d := by omega
      go_wp2_with fail
      go_end0
      exact ⟨⟨_, rfl⟩, hh, hs.of_eq fun i hi => by
        unfold rvS
        split
        · rfl
        · rw [show k - 1 - i = i by omega]⟩
end Go.Proofs.Ytdinknpagklkjaa

/- A queue of numbers: appended to at the end, cut at the front. Conditions: none. -/
namespace Go.Proofs.Ytdinknpagklkjaa
open Go.RowKit

/-- The slice V reads as l and lies in a row of its own, at some place of it; behind it there is room. -/
def Fifo (w : World) (B : Nat) (A : Option Addr) (cap : Nat) (l : List Int) : Prop :=
  ∃ (g off : Nat) (cur : Array Value), A = some ⟨g, off, none⟩ ∧ B ≤ g ∧ Blk w g 3 cur ∧ off + cap ≤ cur.size ∧ l.length ≤ cap ∧ cap ≤ maxLen ∧ ∀ j, (h : j < l.length) → cur[off + j]? = some (.int .i64 l[j])
theorem Fifo.kept {w w' : World} {B cap : Nat} {A : Option Addr} {l : List Int} (h : Fifo w B A cap l) (hk : ∀ g, blkOf A = some g → w'.heap[g]? = w.heap[g]?) : Fifo w' B A cap l := by
  obtain ⟨g, off, cur, rfl, hB, hb, h1⟩ := h
  exact ⟨g, off, cur, rfl, hB, (hk g rfl).trans hb, h1⟩
theorem Fifo.lt {w : World} {B cap : Nat} {A : Option Addr} {l : List Int} (h : Fifo w B A cap l) : ∀ g, blkOf A = some g → B ≤ g ∧ g < w.heap.size := by
  obtain ⟨g, off, cur, rfl, hB, hb, h1⟩ := h
  intro g' hg
  have : g = g' := by simpa [blkOf] using hg
  subst this
  exact ⟨hB, hb.lt⟩
theorem Fifo.cell {w : World} {B cap : Nat} {A : Option Addr} {l : List Int} (h : Fifo w B A cap l) {j : Nat} (hj : j < l.length) : ∃ g off, A = some ⟨g, off, none⟩ ∧ w.cell? ⟨g, off + j, none⟩ = some (.int .i64 l[j]) := by
  obtain ⟨g, off, cur, rfl, hB, hb, h1, h2, h3, h4⟩ := h
  exact ⟨g, off, rfl, (hb.cell (off + j)).trans (h4 j hj)⟩
theorem Fifo.start {w : World} {B : Nat} (s : Int) (hB : B ≤ w.heap.size) : Fifo (w.alloc (.cells #[.int .i64 s] 3)) B (some ⟨w.heap.size, 0, none⟩) 1 [s] :=
  ⟨w.heap.size, 0, _, rfl, hB, Blk.new w _ _, by simp, by simp, by unfold maxLen; omega, fun j hj => by
    have : j = 0 := by simpa using hj
    subst this
    rfl⟩
/-- The front is cut off. -/
theorem Fifo.pop {w : World} {B cap : Nat} {g off : Nat} {x : Int} {l : List Int} (h : Fifo w B (some ⟨g, off, none⟩) cap (x :: l)) : Fifo w B (if cap = 1 then some ⟨g, off, none⟩ else some ⟨g, off + 1, none⟩) (cap - 1) l := by
  obtain ⟨g', off', cur, hA, hB, hb, h1, h2, h3, h4⟩ := h
  simp only [Option.some.injEq, Addr.mk.injEq] at hA
  obtain ⟨rfl, rfl, _⟩ := hA
  rw [List.length_cons] at h2
  by_cases hc : cap = 1
  · rw [if_pos hc]
    refine ⟨g, off, cur, rfl, hB, hb, by omega, by omega, by omega, fun j hj => by omega⟩
  · rw [if_neg hc]
    refine ⟨g, off + 1, cur, rfl, hB, hb, by omega, by omega, by omega, fun j hj => ?_⟩
    have := h4 (j + 1) (by rw [List.length_cons]; omega)
    rw [show off + 1 + j = off + (j + 1) by omega]
    simpa using this
set_option maxRecDepth 100000 in
theorem Fifo.push {w : World} {B cap n : Nat} {A : Option Addr} {l : List Int} (h : Fifo w B A cap l) (hn : l.length = n) (hB : B ≤ w.heap.size) (x : Int) (X : Addr) (cx : Nat) (hx : w.cell? X = some (.int .i64 x)) (hsm : n + 1 ≤ 100000) :
    ∃ (A' : Option Addr) (cap' : Nat) (w' : World), (Builtin.append_ #[27, 27] 27 #[.slice A n cap, .slice (some X) 1 cx]).run Try.prog w = .ok (.slice A' (n + 1) cap') w' ∧ Fifo w' B A' cap' (l ++ [x]) ∧ w.grownBy w' (blkOf A) ∧ (blkOf A' = blkOf A ∨ ∀ g, blkOf A' = some g → w.heap.size ≤ g) := by
  obtain ⟨g, off, cur, rfl, hBg, hb, h1, h2, h3, h4⟩ := h
  have hI : (Try.prog.info? 3).map (fun i => (i.zero, i.size, i.bytes)) = some (some (.int .i64 0), 1, 8) := rfl
  obtain ⟨i, hi, hz, hs, hby⟩ := info_parts hI
  have hnews : ∀ j u, ([Value.int .i64 x] : List Value)[j]? = some u → w.cell? (X.add j) = some u := fun j u hu => by
    cases j with
    | zero =>
      simp at hu
      rw [← hu, show X.add 0 = X by obtain ⟨b, o, s⟩ := X; cases s <;> simp [Addr.add]]
      exact hx
    | succ j => simp at hu
  by_cases hroom : n + 1 ≤ cap
  · have hlt : off + n < cur.size := by omega
    have hcell : w.cell? ⟨g, off + n, none⟩ = some cur[off + n] := (hb.cell (off + n)).trans (by rw [Array.getElem?_eq_getElem hlt])
    have hrun := run_append_room_cells (P := Try.prog) w 27 27 3 i Try.underlying27 hi g off n cap X 1 cx [.int .i64 x] (by rw [hs]; rfl) hnews (by simp [Value.oneCell']) hroom
      (fun j hj => by
        have : j = 0 := by simpa using hj
        subst this
        rw [hs, Nat.mul_one, Nat.add_zero, hcell]; rfl)
      (fun j hj => hb.frozen _)
    rw [hs, Nat.mul_one] at hrun
    refine ⟨some ⟨g, off, none⟩, cap, w.setCell ⟨g, off + n, none⟩ (.int .i64 x), hrun, ⟨g, off, cur.setIfInBounds (off + n) (.int .i64 x), rfl, hBg, hb.put (off + n) _, by simpa using h1, by rw [List.length_append]; simpa [hn] using hroom, h3, fun j hj => ?_⟩, ?_, .inl rfl⟩
    · rw [Array.getElem?_setIfInBounds]
      by_cases hjn : j = n
      · subst hjn
        simp [hlt, hn]
      · rw [List.length_append, List.length_singleton] at hj
        rw [if_neg (by omega), h4 j (by omega), List.getElem_append_left (by omega)]
    · exact ⟨rfl, rfl, rfl, by simp [World.setCell], fun k hk hne => Below.heap_setCell w _ _ k (fun e => hne (by rw [e]; rfl))⟩
  · have holds : ∀ j u, (l.map fun y => Value.int .i64 y)[j]? = some u → w.cell? ((⟨g, off, none⟩ : Addr).add j) = some u := fun j u hu => by
      rw [List.getElem?_map] at hu
      by_cases hj : j < l.length
      · rw [List.getElem?_eq_getElem hj] at hu
        rw [addr_add, (hb.cell (off + j)), h4 j hj]
        simpa using hu
      · rw [List.getElem?_eq_none (by omega)] at hu
        cases hu
    obtain ⟨v', w', hrun, hown, hgr⟩ := run_append_arg_grows (P := Try.prog) w 27 27 3 i (.int .i64 0) 1 8 Try.underlying27 hi hz hs hby rfl (by omega) ⟨g, off, none⟩ n cap (l.map fun y => Value.int .i64 y) (by simp [hn]) holds X 1 cx [.int .i64 x] rfl hnews (by omega) (by unfold maxLen; omega) (by omega)
    rcases hown.2 with ⟨_, h0⟩ | ⟨g', cap', cur', rfl, hg', hh, hnc, hcm, hsz, htk⟩
    · omega
    · refine ⟨some ⟨g', 0, none⟩, cap', w', hrun, ⟨g', 0, cur', rfl, Nat.le_trans hB hg', hh, by omega, by rw [List.length_append]; simpa [hn] using hnc, hcm, fun j hj => ?_⟩, ⟨hgr.os, hgr.tape, hgr.output, hgr.size, fun k hk _ => hgr.block k hk (by simp)⟩, .inr fun g hg => by
        have : g' = g := by simpa [blkOf] using hg
        omega⟩
      · rw [List.length_append, List.length_singleton, hn] at hj
        have h5 := congrArg (fun l => l[j]?) htk
        simp only [List.getElem?_take] at h5
        rw [if_pos (by omega)] at h5
        rw [Nat.zero_add, ← Array.getElem?_toList, h5]
        by_cases hjn : j < n
        · rw [List.getElem?_append_left (by simp; omega), List.getElem?_map, List.getElem?_eq_getElem (by omega), List.getElem_append_left (by omega)]
          rfl
        · have hj2 : j = n := by omega
          subst hj2
          rw [List.getElem?_append_right (by simp [hn])]
          simp [hn]
end Go.Proofs.Ytdinknpagklkjaa

/- What wishes are told to be wrong: the program and the reference compute the one function wishCheck. Conditions: the lists read as lists. -/
namespace Go.Proofs.Ytdinknpagklkjaa
open Go.RowKit
attribute [local go_sem ↓] s_and s_or s_but s_and1 s_shr s_shl1
attribute [local go_sem] s_eq0 s_ne0 s_eq1

abbrev rcell (s : Sls Int) : List Value := [s.val]
def badAt (n : Int) (l : List Int) (k : Nat) : Bool := decide (l.getD k 0 < 0) || decide (n ≤ l.getD k 0) || hasB (l.take k) (l.getD k 0)
def listBad (n : Int) (l : List Int) : Bool := (List.range l.length).any (badAt n l)
def sideBad (n : Int) (ls : List (Sls Int)) : Bool := ls.any fun s => listBad n s.l
def wishCheck (L R : List (Sls Int)) : Int :=
  if 8 < L.length ∨ 8 < R.length then 1 else if L.length ≠ R.length then 3 else if sideBad L.length L || sideBad L.length R then 2 else 0
/-- What has been seen of the first k. -/
def seenTo (l : List Int) : Nat → BitVec 32
  | 0 => w0
  | k + 1 => wOr (seenTo l k) (wShl w1 (l.getD k 0).toNat)
theorem seen_bit (l : List Int) : ∀ (k : Nat) (m : Nat), m < 32 → k ≤ l.length → (∀ j, j < k → 0 ≤ l.getD j 0) → (seenTo l k).getLsbD m = hasB (l.take k) m
  | 0, m, _, _, _ => by simp [seenTo, b_0, hasB]
  | k + 1, m, hm, hk, h => by
    unfold hasB
    rw [seenTo, b_or, seen_bit l k m hm (by omega) (fun j hj => h j (by omega)), b_one, any_take_succ _ _ _ (by omega)]
    unfold hasB
    congr 1
    have h0 := h k (by omega)
    rw [← getD_at l k (by omega) 0]
    generalize l.getD k 0 = x at h0
    rw [Bool.eq_iff_iff]
    simp [hm]
    omega
theorem noBad_nonneg {n : Int} {l : List Int} {k : Nat} (h : (List.range k).any (badAt n l) = false) : ∀ j, j < k → 0 ≤ l.getD j 0 := by
  intro j hj
  have := List.any_eq_false.1 h j (List.mem_range.2 hj)
  unfold badAt at this
  generalize l.getD j 0 = x at this
  simp at this
  omega

end Go.Proofs.Ytdinknpagklkjaa

/- Does a pairing hold: what the program asks and what the reference asks come to the same; plain Lean. Conditions: none. -/
namespace Go.Proofs.Ytdinknpagklkjaa
open Go.RowKit

def idxI (x : Int) (l : List Int) : Int := idxF (fun y => x == y) l
def rankI (x : Int) (l : List Int) : Int := if 0 ≤ idxI x l then idxI x l else 8
theorem idxI_nil (x : Int) : idxI x [] = -1 := rfl
theorem idxI_hit (x : Int) (l : List Int) : idxI x (x :: l) = 0 := by
  unfold idxI idxF
  simp [List.findIdx_cons]
theorem idxI_skip {x y : Int} (l : List Int) (h : x ≠ y) : idxI x (y :: l) = if 0 ≤ idxI x l then idxI x l + 1 else -1 := by
  have hb : (x == y) = false := by simpa using h
  have e : idxI x (y :: l) = if l.any (fun y => x == y) = true then ((l.findIdx (fun y => x == y) + 1 : Nat) : Int) else -1 := by
    unfold idxI idxF
    simp only [List.any_cons, hb, Bool.false_or, List.findIdx_cons, cond_false]
  have e2 : idxI x l = if l.any (fun y => x == y) = true then (l.findIdx (fun y => x == y) : Int) else -1 := rfl
  rw [e, e2]
  split
  · rename_i h1
    rw [if_pos (by omega)]
    omega
  · rename_i h1
    rw [if_neg (by omega)]
theorem idxI_range (x : Int) : ∀ l : List Int, -1 ≤ idxI x l ∧ idxI x l < l.length
  | [] => by rw [idxI_nil]; simp
  | y :: l => by
    have ih := idxI_range x l
    by_cases h : x = y
    · subst h; rw [idxI_hit]; simp
    · rw [idxI_skip l h]
      simp only [List.length_cons]
      split <;> omega
theorem hasB_cons (x y : Int) (l : List Int) : hasB (y :: l) x = ((x == y) || hasB l x) := rfl
theorem idxI_has (x : Int) : ∀ l : List Int, (0 ≤ idxI x l ↔ hasB l x = true)
  | [] => by rw [idxI_nil]; simp [hasB]
  | y :: l => by
    have ih := idxI_has x l
    rw [hasB_cons]
    by_cases h : x = y
    · subst h; rw [idxI_hit]; simp
    · rw [idxI_skip l h]
      have hb : (x == y) = false := by simpa using h
      rw [hb, Bool.false_or, ← ih]
      split <;> omega
theorem rank8 {x : Int} {l : List Int} (h : l.length ≤ 8) : (rankI x l == 8) = !hasB l x := by
  have h1 := idxI_range x l
  have h2 := idxI_has x l
  unfold rankI
  cases hh : hasB l x with
  | true =>
    have := h2.2 hh
    rw [if_pos this]
    simp
    omega
  | false =>
    have : ¬ 0 ≤ idxI x l := fun h => by rw [h2.1 h] at hh; cases hh
    rw [if_neg this]
    rfl
theorem rank_lt8 {x : Int} {l : List Int} (h : l.length ≤ 8) : decide (rankI x l < 8) = hasB l x := by
  have h1 := idxI_range x l
  have h2 := idxI_has x l
  unfold rankI
  cases hh : hasB l x with
  | true =>
    have := h2.2 hh
    rw [if_pos this]
    simp
    omega
  | false =>
    have : ¬ 0 ≤ idxI x l := fun h => by rw [h2.1 h] at hh; cases hh
    rw [if_neg this]
    rfl
theorem rank_bounds {x : Int} {l : List Int} (h : l.length ≤ 8) : 0 ≤ rankI x l ∧ rankI x l ≤ 8 := by
  have h1 := idxI_range x l
  unfold rankI
  split <;> omega
/-- Would one, by its list, rather have a than b? -/
def ratherB (a b : Int) : List Int → Bool
  | [] => false
  | x :: l => if x = b then false else if x = a then true else ratherB a b l
theorem rather_none {a b : Int} : ∀ {l : List Int}, (∀ x ∈ l, x ≠ b) → ratherB a b l = hasB l a
  | [], _ => rfl
  | x :: l, h => by
    rw [ratherB, if_neg (h x (by simp)), hasB_cons]
    by_cases hx : x = a
    · rw [if_pos hx, hx]; simp
    · rw [if_neg hx, rather_none (fun y hy => h y (by simp [hy]))]
      have : (a == x) = false := by simp; exact fun e => hx e.symm
      rw [this, Bool.false_or]
theorem rank_hit (x : Int) (l : List Int) : rankI x (x :: l) = 0 := by
  unfold rankI
  rw [idxI_hit]
  rfl
theorem rank_skip {x y : Int} (l : List Int) (h : x ≠ y) : rankI x (y :: l) = if 0 ≤ idxI x l then idxI x l + 1 else 8 := by
  unfold rankI
  rw [idxI_skip l h]
  by_cases p : 0 ≤ idxI x l
  · rw [if_pos p, if_pos (by omega)]
    rw [if_pos p]
  · rw [if_neg p, if_neg (by omega)]
    rw [if_neg p]
theorem rather_rank {a b : Int} (hab : a ≠ b) : ∀ {l : List Int}, l.length ≤ 8 → (ratherB a b l = true ↔ rankI a l < 8 ∧ rankI a l < rankI b l)
  | [], _ => by simp [ratherB, rankI, idxI_nil]
  | x :: l, h => by
    have hl : l.length ≤ 8 := by simp at h; omega
    have ih := rather_rank hab (l := l) hl
    have r1 := idxI_range a l
    have r2 := idxI_range b l
    have r3 := rank_bounds (x := a) h
    rw [ratherB]
    by_cases hb : x = b
    · subst hb
      rw [if_pos rfl, rank_hit]
      constructor
      · intro h; cases h
      · intro h; omega
    · rw [if_neg hb]
      have hb' : b ≠ x := fun e => hb e.symm
      by_cases ha : x = a
      · subst ha
        rw [if_pos rfl, rank_hit, rank_skip l hb']
        refine ⟨fun _ => ⟨by omega, ?_⟩, fun _ => rfl⟩
        split <;> omega
      · rw [if_neg ha, ih]
        have ha' : a ≠ x := fun e => ha e.symm
        have hl9 : l.length < 8 := by simp at h; omega
        rw [rank_skip l hb', rank_skip l ha']
        unfold rankI
        by_cases p1 : 0 ≤ idxI a l
        · rw [if_pos p1, if_pos p1]
          by_cases p2 : 0 ≤ idxI b l
          · rw [if_pos p2, if_pos p2]; omega
          · rw [if_neg p2, if_neg p2]; omega
        · rw [if_neg p1, if_neg p1]; omega
/-- On the list, ahead of the one that is had: is there a bad one? -/
def scanB (bad : Int → Bool) (li : Int) : List Int → Bool
  | [] => true
  | x :: r => if x = li then true else if bad x = true then false else scanB bad li r
theorem scan_iff (bad : Int → Bool) (li : Int) : ∀ r : List Int, (scanB bad li r = false ↔ ∃ j ∈ r, j ≠ li ∧ ratherB j li r = true ∧ bad j = true)
  | [] => by simp [scanB]
  | x :: r => by
    have ih := scan_iff bad li r
    rw [scanB]
    by_cases hx : x = li
    · rw [if_pos hx]
      constructor
      · intro h; cases h
      · rintro ⟨j, _, _, h, _⟩
        rw [ratherB, if_pos hx] at h
        cases h
    · rw [if_neg hx]
      by_cases hb : bad x = true
      · rw [if_pos hb]
        refine ⟨fun _ => ⟨x, by simp, hx, ?_, hb⟩, fun _ => rfl⟩
        rw [ratherB, if_neg hx, if_pos rfl]
      · rw [if_neg hb, ih]
        constructor
        · rintro ⟨j, hj, hne, hr, hbj⟩
          refine ⟨j, by simp [hj], hne, ?_, hbj⟩
          rw [ratherB, if_neg hx]
          split
          · rfl
          · exact hr
        · rintro ⟨j, hj, hne, hr, hbj⟩
          have hjx : x ≠ j := fun e => hb (e ▸ hbj)
          rw [ratherB, if_neg hx, if_neg hjx] at hr
          rcases List.mem_cons.1 hj with h | h
          · exact absurd h.symm hjx
          · exact ⟨j, h, hne, hr, hbj⟩
theorem rather_mem {a b : Int} : ∀ {l : List Int}, ratherB a b l = true → a ∈ l
  | [], h => by cases h
  | x :: l, h => by
    rw [ratherB] at h
    by_cases hb : x = b
    · rw [if_pos hb] at h; cases h
    · rw [if_neg hb] at h
      by_cases ha : x = a
      · simp [ha]
      · rw [if_neg ha] at h
        exact List.mem_cons_of_mem _ (rather_mem h)

/-- The list of one on a side. -/
def ls (L : List (Sls Int)) (i : Nat) : List Int := (L.map Sls.l).getD i []
/-- Does the program's test of one of the pairs, of one of those ahead, fail? -/
def lackP (L R : List (Sls Int)) (i : Nat) (j : Int) : Bool := decide (0 ≤ j) && ((rankI j (ls L i) == 8) || (rankI i (ls R j.toNat) == 8))
def badP (R : List (Sls Int)) (l : List Int) (i : Nat) (j : Int) : Bool :=
  decide (rankI i (ls R j.toNat) < 8) && (decide (idxI j l < 0) || decide (rankI i (ls R j.toNat) < rankI (idxI j l) (ls R j.toNat)))
def holdP (L R : List (Sls Int)) (l : List Int) : Bool :=
  !((List.range l.length).any fun i => lackP L R i (l.getD i 0)) && (List.range L.length).all fun i => scanB (badP R l i) (l.getD i 0) (ls L i)
def lackR (L R : List (Sls Int)) (i : Nat) (j : Int) : Bool := decide (0 ≤ j) && (!hasB (ls L i) j || !hasB (ls R j.toNat) i)
def badR (L R : List (Sls Int)) (l : List Int) (i j : Nat) : Bool := (l.getD i 0 != j) && ratherB j (l.getD i 0) (ls L i) && ratherB i (idxI j l) (ls R j)
def holdR (L R : List (Sls Int)) (l : List Int) : Bool :=
  !((List.range l.length).any fun i => lackR L R i (l.getD i 0)) && !((List.range l.length).any fun i => (List.range l.length).any fun j => badR L R l i j)

structure GoodL (n : Nat) (L : List (Sls Int)) : Prop where
  len : L.length = n
  n8 : n ≤ 8
  l8 : ∀ i, (ls L i).length ≤ 8
  rg : ∀ i, ∀ x ∈ ls L i, 0 ≤ x ∧ x < n
theorem nodup_short {n : Nat} : ∀ {l : List Int}, l.Nodup → (∀ x ∈ l, 0 ≤ x ∧ x < n) → l.length ≤ n := by
  induction n with
  | zero =>
    intro l _ h
    cases l with
    | nil => simp
    | cons a l => have := h a (by simp); omega
  | succ n ih =>
    intro l hn h
    by_cases hm : (n : Int) ∈ l
    · have h1 := ih (l := l.erase (n : Int)) (hn.erase _) (fun i hi => by
        have h2 := (List.Nodup.mem_erase_iff hn).1 hi
        have := h i h2.2
        omega)
      have := List.length_erase_of_mem hm
      omega
    · have h2 := ih hn (fun i hi => by
        have h3 := h i hi
        have h4 : i ≠ (n : Int) := fun e => hm (e ▸ hi)
        omega)
      omega
theorem listGood {n : Nat} {l : List Int} (h : listBad n l = false) : l.Nodup ∧ ∀ x ∈ l, 0 ≤ x ∧ x < n := by
  have hk : ∀ k, ∀ hk : k < l.length, 0 ≤ l[k] ∧ l[k] < n ∧ hasB (l.take k) l[k] = false := fun k hk => by
    have := List.any_eq_false.1 h k (List.mem_range.2 hk)
    unfold badAt at this
    rw [getD_at l k hk 0] at this
    simp at this
    refine ⟨by omega, by omega, ?_⟩
    cases hh : hasB (l.take k) l[k] with
    | false => rfl
    | true => rw [hh] at this; simp at this
  refine ⟨?_, fun x hx => ?_⟩
  · rw [List.nodup_iff_pairwise_ne, List.pairwise_iff_getElem]
    intro i j hi hj hij e
    have h3 := (hk j hj).2.2
    have : hasB (l.take j) l[j] = true := by
      unfold hasB
      rw [List.any_eq_true]
      refine ⟨l[i], ?_, by rw [e]; simp⟩
      rw [List.mem_take_iff_getElem]
      exact ⟨i, by omega, rfl⟩
    rw [this] at h3
    cases h3
  · obtain ⟨k, hkl, rfl⟩ := List.getElem_of_mem hx
    exact ⟨(hk k hkl).1, (hk k hkl).2.1⟩
theorem goodL {n : Nat} {L : List (Sls Int)} (hl : L.length = n) (hn : n ≤ 8) (h : sideBad n L = false) : GoodL n L := by
  have hi : ∀ i, (ls L i).Nodup ∧ ∀ x ∈ ls L i, 0 ≤ x ∧ x < n := fun i => by
    unfold ls
    by_cases hi : i < L.length
    · have e : (L.map Sls.l).getD i [] = L[i].l := by simp [List.getD_eq_getElem?_getD, hi]
      rw [e]
      have := List.any_eq_false.1 h L[i] (List.getElem_mem hi)
      exact listGood (by simpa using this)
    · have e : (L.map Sls.l).getD i [] = [] := by simp [List.getD_eq_getElem?_getD, show L.length ≤ i by omega]
      rw [e]
      exact ⟨List.nodup_nil, by simp⟩
  exact ⟨hl, hn, fun i => Nat.le_trans (nodup_short (hi i).1 (hi i).2) hn, fun i => (hi i).2⟩
theorem wish_good {L R : List (Sls Int)} (h : wishCheck L R = 0) : GoodL L.length L ∧ GoodL L.length R := by
  unfold wishCheck at h
  split at h
  · omega
  · split at h
    · omega
    · split at h
      · omega
      · rename_i h1 h2 h3
        have h4 : R.length = L.length := by omega
        rw [Bool.not_eq_true, Bool.or_eq_false_iff] at h3
        exact ⟨goodL rfl (by omega) h3.1, goodL h4 (by omega) h3.2⟩
theorem hold_same {n : Nat} {L R : List (Sls Int)} {l : List Int} (hL : GoodL n L) (hR : GoodL n R) (hl : l.length = n) : holdP L R l = holdR L R l := by
  have e1 : (fun i : Nat => lackP L R i (l.getD i 0)) = fun i => lackR L R i (l.getD i 0) := by
    funext i
    unfold lackP lackR
    rw [rank8 (hL.l8 i), rank8 (hR.l8 _)]
  unfold holdP holdR
  rw [e1, hL.len, hl]
  congr 1
  rw [Bool.eq_iff_iff, Bool.not_eq_true', List.all_eq_true, List.any_eq_false]
  refine forall_congr' fun i => forall_congr' fun hi => ?_
  have hin := List.mem_range.1 hi
  have key : scanB (badP R l i) (l.getD i 0) (ls L i) = false ↔ ((List.range n).any fun j => badR L R l i j) = true := by
    rw [scan_iff, List.any_eq_true]
    have hbad : ∀ j : Nat, (j : Int) ≠ l.getD i 0 → (badP R l i j = true ↔ ratherB i (idxI j l) (ls R j) = true) := fun j hne => by
      have hlen := hR.l8 j
      have hno : idxI j l ≠ i := fun e => by
        have h1 : (0 : Int) ≤ idxI j l := by omega
        have h2 := (idxI_has (j : Int) l).1 h1
        obtain ⟨k, hk, h3, h4, _⟩ : ∃ k, ∃ hk : k < l.length, idxI j l = k ∧ ((j : Int) == l[k]) = true ∧ True := by
          unfold idxI idxF
          unfold hasB at h2
          rw [if_pos h2]
          refine ⟨l.findIdx fun y => (j : Int) == y, List.findIdx_lt_length_of_exists (by simpa using h2), rfl, ?_, trivial⟩
          exact List.findIdx_getElem (p := fun y => (j : Int) == y)
        have hki : k = i := by omega
        subst hki
        rw [getD_at l k hk 0] at hne
        exact hne (by simpa using h4)
      unfold badP
      rw [Int.toNat_natCast]
      by_cases ho : idxI j l < 0
      · have hm1 : idxI j l = -1 := by have := idxI_range j l; omega
        rw [hm1, rather_none (fun x hx => by have := hR.rg j x hx; omega), ← rank_lt8 hlen]
        simp
      · rw [rather_rank (fun e => hno e.symm) hlen]
        have : decide (idxI j l < 0) = false := decide_eq_false ho
        rw [this, Bool.false_or, Bool.and_eq_true, decide_eq_true_eq, decide_eq_true_eq]
    constructor
    · rintro ⟨j, hj, hne, hr, hb⟩
      have hjr := hL.rg i j hj
      obtain ⟨m, rfl⟩ := Int.eq_ofNat_of_zero_le hjr.1
      refine ⟨m, List.mem_range.2 (by omega), ?_⟩
      unfold badR
      rw [hr, (hbad m hne).1 hb]
      simp
      exact fun e => hne e.symm
    · rintro ⟨m, _, hb⟩
      unfold badR at hb
      simp only [Bool.and_eq_true, bne_iff_ne, ne_eq] at hb
      have hne : (m : Int) ≠ l.getD i 0 := fun e => hb.1.1 e.symm
      exact ⟨m, rather_mem hb.1.2, hne, hb.1.2, (hbad m hne).2 hb.2⟩
  constructor
  · intro h1 h2
    rw [key.2 h2] at h1
    cases h1
  · intro h1
    cases h2 : scanB (badP R l i) (l.getD i 0) (ls L i) with
    | true => rfl
    | false => exact absurd (key.1 h2) h1
end Go.Proofs.Ytdinknpagklkjaa
