/- The statement LanesApart: its law's walk. Conditions: the edges read as a list. -/
import Derived.Test.YtjkfogkpacmdlaaLanesApart43
import Derived.Test.YtjkfogkpacmdlaaLanesApart44
import Derived.Test.YtjkfogkpacmdlaaLanesApart45
import Derived.Test.YtjkfogkpacmdlaaLanesApart5
import Derived.Test.YtjkfogkpacmdlaaLanesApart2
namespace Go.Proofs.Ytjkfogkpacmdlaa
open Go.RowKit
attribute [local go_sem] w_eq0 w_ne0 w_eq1 w_eq w_ne

theorem run_mid {P : Program} {t e : TypeId} (ht : P.underlying t = some (.slice e)) (hs : ∀ w, (sizeOf e).run P w = .ok 1 w) (g m cap h : Nat) (h1 : 1 ≤ h) (hm : h ≤ cap) (hc : 2 ≤ cap) (w : World) :
    (Instr.slice t (.slice (some ⟨g, 0, none⟩) m cap) (some (.int .i64 1)) (some (.int .i64 (h : Int))) none).run P w = .ok (.slice (some ⟨g, 1, none⟩) (h - 1) (cap - 1)) w := by
  have h2 : (0 : Int) ≤ (h : Int) ∧ (h : Int) ≤ (cap : Int) := by omega
  have h3 : ¬ cap = 1 := by omega
  have h4 : (1 : Int) ≤ (h : Int) := by omega
  simp [Instr.slice, run_underlying ht, Instr.sliceBounds, Instr.sliceBound, asIntOf, hm, h1, h4, hs, h3, Result.andThen, Addr.add]
/-- What is met on a way has not been met ahead. -/
theorem met_fresh {mids : List (List Int)} (hn : mids.flatten.Nodup) {k : Nat} {m : List Int} (hm : mids[k]? = some m) {i : Nat} {x : Int} (hx : m[i]? = some x) : x ∉ (mids.take k).flatten ++ m.take i := by
  have hk := (List.getElem?_eq_some_iff.1 hm).1
  have e1 : mids = mids.take k ++ m :: mids.drop (k + 1) := by
    conv => lhs; rw [← List.take_append_drop k mids, List.drop_eq_getElem_cons hk]
    rw [(List.getElem?_eq_some_iff.1 hm).2]
  have hi := (List.getElem?_eq_some_iff.1 hx).1
  have e2 : m = m.take i ++ x :: m.drop (i + 1) := by
    conv => lhs; rw [← List.take_append_drop i m, List.drop_eq_getElem_cons hi]
    rw [(List.getElem?_eq_some_iff.1 hx).2]
  have e3 : mids.flatten = ((mids.take k).flatten ++ m.take i) ++ (x :: (m.drop (i + 1) ++ (mids.drop (k + 1)).flatten)) := by
    conv => lhs; rw [e1, e2]
    simp
  rw [e3] at hn
  exact fun h => (List.nodup_append.1 hn).2.2 x h x List.mem_cons_self rfl
theorem mids_take {mids : List (List Int)} {k : Nat} {m : List Int} (hm : mids[k]? = some m) : (mids.take (k + 1)).flatten = (mids.take k).flatten ++ m := by
  rw [List.take_add_one, hm]
  simp
theorem mid_sub {mids : List (List Int)} {k : Nat} {m : List Int} (hm : mids[k]? = some m) : m.Sublist mids.flatten := by
  have hk := (List.getElem?_eq_some_iff.1 hm).1
  have e1 : mids = mids.take k ++ m :: mids.drop (k + 1) := by
    conv => lhs; rw [← List.take_append_drop k mids, List.drop_eq_getElem_cons hk]
    rw [(List.getElem?_eq_some_iff.1 hm).2]
  rw [e1, List.flatten_append, List.flatten_cons]
  exact (List.sublist_append_left m _).trans (List.sublist_append_right _ _)
theorem take_len {mids : List (List Int)} {N k : Nat} (h : mids.flatten.length ≤ N) : ((mids.take k).flatten).length ≤ N := by
  have e : mids.flatten = (mids.take k).flatten ++ (mids.drop k).flatten := by rw [← List.flatten_append, List.take_append_drop]
  rw [e, List.length_append] at h
  omega

/-- While the ways are looked at. -/
def LawI (Z L : Nat) (w : World) (mids : List (List Int)) (s38 s10 : Value) (wr : World) : Prop :=
  ∃ (k n10 cap10 : Nat) (A10 : Option Addr), k ≤ L ∧ s38 = .int .i64 k ∧ s10 = .slice A10 n10 cap10 ∧ n10 = ((mids.take k).flatten).length ∧ Below Z w wr ∧ Own wr Z 3 1 icell A10 cap10 ((mids.take k).flatten)
/-- While a way is looked at. -/
def LawJ (Z k h : Nat) (w : World) (mids : List (List Int)) (m : List Int) (s54 s10 : Value) (wr : World) : Prop :=
  ∃ (i n10 cap10 : Nat) (A10 : Option Addr), i ≤ h ∧ s54 = .int .i64 i ∧ s10 = .slice A10 n10 cap10 ∧ n10 = ((mids.take k).flatten ++ m.take i).length ∧ Below Z w wr ∧ Own wr Z 3 1 icell A10 cap10 ((mids.take k).flatten ++ m.take i)

set_option maxRecDepth 100000 in
set_option maxHeartbeats 1000000 in
theorem law_LanesApart (N a b : Int) (A : Option Addr) (n c : Nat) (l : List Ed) (w : World) (hl : l.length = n) (hn : n ≤ maxLen) (hc : n ≤ c) (hr : Els w w.heap.size 3 Ed.cells A l) :
    Calls Try.prog 3 #[.agg #[.int .i64 N, .slice A n c], .int .i64 a, .int .i64 b] w fun e w' => e = .returned (.bool true) ∧ Below w.heap.size w w' := by
  have hb0 := (Below.refl w.heap.size w).alloc (Nat.le_refl _) (.cells #[.int .i64 N, .slice A n c] 24)
  have hB0 := Blk.new w 24 #[.int .i64 N, .slice A n c]
  have hr0 : Els (w.alloc (.cells #[.int .i64 N, .slice A n c] 24)) (w.alloc (.cells #[.int .i64 N, .slice A n c] 24)).heap.size 3 Ed.cells A l := (hr.alloc (Nat.le_refl _) _).more (by rw [size_alloc']; omega)
  have c0 := hB0.cell 0
  have c1 := hB0.cell 1
  have HL := Lib.hid hl
  have HR := Lib.hid hr
  have HM := Lib.hid hn
  have HC := Lib.hid hc
  have HB0 := Lib.hid hb0
  have HK0 := Lib.hid hB0
  by_cases h0 : waysCheck N l a b = 0
  · obtain ⟨hgc, i, j, rfl, rfl, hi, hj, hab, hadj⟩ := ways_ok h0
    obtain ⟨m, rfl, hg⟩ := graph_good hgc
    have hm := hg.n10
    have hi' : i < m := by omega
    have hj' : j < m := by omega
    have hn45 : n ≤ 45 := by rw [← hl]; exact hg.m45
    obtain ⟨ok, hok⟩ := bool_of (fun k => ((nw k).getLsbD i = false ∧ (nw k).getLsbD j = false) ∧ ¬ Rch (Adj (withoutE l (nw k))) i j)
    have HW := Lib.hid (lanes_Apart m i j A n c l _ h0 hg hi' hj' hab hadj hl hr0)
    have HG := Lib.hid hg
    have HZ := Lib.hid h0
    have HOK := Lib.hid hok
    clear hr hr0 hb0 hB0 hl hn hc h0 hgc hg hok
    go_enter Try.func3, Try.ntmps3
    go_wp2_with fail
    refine HW.out.mono ?_
    clear HW
    rintro e v1 ⟨A1, cap1, B1, ways, Sm, gs, v, rfl, hb1, hout1, hways, hnd, hlow, hLv, hfv, p, p1, p2, p3⟩
    have hsame : (pop (laneR ok (2 ^ m)).1 : Int) = v := men_same HG.out hi' hj' hab hadj hfv p1 p2 p3 HOK.out
    have hk1 := HK0.out.below hb1 (by rw [size_alloc']; omega)
    have hb1' := HB0.out.trans (hb1.mono (by rw [size_alloc']; omega))
    have hz1 := hb1'.size
    have hlt1 := hk1.lt
    have HB1 := Lib.hid hb1'
    have HK1 := Lib.hid hk1
    have HO1 := Lib.hid hout1
    obtain ⟨L, hL⟩ : ∃ L, L = ways.length := ⟨_, rfl⟩
    rw [← hL] at hLv ⊢
    have hLp : L = pop (laneR ok (2 ^ m)).1 := by omega
    have HLP := Lib.hid hLp
    have hL32 : L ≤ 32 := by rw [hLp]; exact popTo_le _ 32
    have HLL := Lib.hid hL
    obtain ⟨mids, hmids, hfl, hch⟩ := hways
    rw [← hfl] at hnd hlow
    have hms : mids.flatten.length ≤ m := nodup_short hnd fun x hx => ⟨(hlow x hx).1, (hlow x hx).2.1⟩
    have hml : mids.length = L := by
      have h := congrArg List.length hmids
      rw [List.length_map, List.length_map] at h
      rw [hL, h]
    have HMIDS := Lib.hid hmids
    have HND := Lib.hid hnd
    have HLOW := Lib.hid hlow
    have HCH := Lib.hid hch
    have HMS := Lib.hid hms
    have HML := Lib.hid hml
    clear c0 c1 hb1 hb1' hout1 hnd hlow hLv hfv p1 p2 p3 hsame hL hLp hmids hfl hch hms hml
    have c0 := hk1.cell 0
    have c1 := hk1.cell 1
    clear hk1
    have HGC := Lib.hid (ref_WaysCheck m i j A n c l v1 HL.out HM.out HC.out ((HR.out.below HB1.out).more hz1))
    rw [HZ.out] at HGC
    go_wp2_with fail
    refine HGC.out.mono ?_
    clear HGC
    rintro e v2 ⟨rfl, hb2⟩
    have hk2 := HK1.out.below hb2 hlt1
    have hb2' := HB1.out.trans (hb2.mono hz1)
    have hz2 := hb2'.size
    have HB2 := Lib.hid hb2'
    have HO2 := Lib.hid (HO1.out.below hb2 (Nat.le_refl _))
    have HK2 := Lib.hid hk2
    have hlt2 := hk2.lt
    clear c0 c1 hb2 hb2' HO1 hk2
    go_wp2_with fail
    obtain ⟨Z, hZ⟩ : ∃ Z, Z = v2.heap.size := ⟨_, rfl⟩
    have HZZ := Lib.hid hZ
    have hwZ : w.heap.size < Z := by omega
    clear hZ
    go_loopw [38, 12, 14, 10] (fun s38 _ _ s10 wr => LawI Z L v2 mids s38 s10 wr) (fun s38 _ _ _ _ => L - (intOf s38).toNat)
    case atStart => exact ⟨0, 0, 0, none, Nat.zero_le _, rfl, rfl, rfl, Below.refl _ _, Own.nil _ _ _ (fun _ => rfl)⟩
    case round =>
      rename World => wr
      obtain ⟨k, n10, cap10, A10, hk, rfl, rfl, hn10, hb, hown⟩ := hrel
      have hkr := HK2.out.below hb (by omega)
      have d0 := hkr.cell 0
      have d1 := hkr.cell 1
      have hbw := HB2.out.trans (hb.mono (by omega))
      have hzw := hbw.size
      by_cases hkL : k < L
      · have hkl : k < ways.length := by rw [← HLL.out]; exact hkL
        have hkm : k < mids.length := by rw [HML.out]; exact hkL
        obtain ⟨md, hmd⟩ : ∃ md, mids[k]? = some md := ⟨_, List.getElem?_eq_getElem hkm⟩
        have hOr := HO2.out.below hb (by rw [HZZ.out]; exact Nat.le_refl _)
        obtain ⟨go, rfl, hgo1, hgo2, r0, _⟩ := hOr.tab.cell1 (f := fun s : Sls Int => s.val) hkl
        obtain ⟨⟨sA, sc, sl⟩, hs⟩ : ∃ s, s = ways[k] := ⟨_, rfl⟩
        have hrow2 : Own v2 B1 3 1 icell sA sc sl := by
          have := HO2.out.row _ (List.getElem_mem hkl)
          rw [← hs] at this
          exact this
        have hrow := hrow2.below hb (by rw [HZZ.out]; exact Nat.le_refl _)
        rw [← hs] at r0
        have hsl : sl = (i : Int) :: md ++ [(j : Int)] := by
          have h1 : (ways.map (·.l))[k]? = some sl := by rw [List.getElem?_map, List.getElem?_eq_getElem hkl, ← hs]; rfl
          rw [HMIDS.out, List.getElem?_map, hmd] at h1
          injection h1 with h1
          exact h1.symm
        subst hsl
        obtain ⟨gsl, rfl, _, _⟩ := hrow.form_ (by simp)
        have hcap := hrow.cap_le
        have hmdm : md ∈ mids := List.mem_of_getElem? hmd
        have hsub := mid_sub hmd
        have hmdl := hsub.length_le
        have hms := HMS.out
        have hlm : ∀ x ∈ md, 0 ≤ x ∧ x < m ∧ x ≠ i ∧ x ≠ j := fun x hx => HLOW.out x (hsub.subset hx)
        obtain ⟨hh, hhh⟩ : ∃ hh, hh = md.length := ⟨_, rfl⟩
        obtain ⟨h1, hh1⟩ : ∃ h1, h1 = hh + 1 := ⟨_, rfl⟩
        obtain ⟨h2, hh2⟩ : ∃ h2, h2 = hh + 2 := ⟨_, rfl⟩
        have hlen : ((i : Int) :: md ++ [(j : Int)]).length = h2 := by simp; omega
        rw [hlen] at hcap
        have hiway := ref_IsWay m i j A n c l (some ⟨gsl, 0, none⟩) h2 sc ((i : Int) :: md ++ [(j : Int)]) wr HL.out hn45 hlen (by omega) (by omega) hcap (by
            rw [List.cons_append, List.nodup_cons]
            refine ⟨fun hx => ?_, List.nodup_append.2 ⟨hsub.nodup HND.out, by simp, fun x hx y hy e => ?_⟩⟩
            · rcases List.mem_append.1 hx with hx | hx
              · exact (hlm _ hx).2.2.1 rfl
              · rw [List.mem_singleton] at hx; omega
            · rw [List.mem_singleton] at hy
              exact (hlm x hx).2.2.2 (by rw [e, hy])) (fun x hx => by
            rw [List.cons_append] at hx
            rcases List.mem_cons.1 hx with rfl | hx
            · omega
            · rcases List.mem_append.1 hx with hx | hx
              · exact ⟨(hlm x hx).1, (hlm x hx).2.1⟩
              · rw [List.mem_singleton] at hx; omega) (HCH.out md hmdm) rfl (by
            rw [show h2 - 1 = ((i : Int) :: md).length from by simp; omega]
            simp) ((HR.out.below hbw).more hzw) hrow.els
        have hcut : ∀ W0, (Instr.slice 30 (.slice (some ⟨gsl, 0, none⟩) h2 sc) (some (.int .i64 1)) (some (.int .i64 (h1 : Int))) none).run Try.prog W0 = .ok (.slice (some ⟨gsl, 1, none⟩) hh (sc - 1)) W0 := fun W0 => by
          have := run_mid Try.underlying30 (fun w => by kernel_rfl) gsl h2 sc h1 (by omega) (by omega) (by omega) W0
          rw [show h1 - 1 = hh from by omega] at this
          exact this
        have e5 : IntKind.i64.wrap ((h2 : Int) - 1) = (h1 : Int) := by rw [IntWalk.i64_in _ (by omega)]; omega
        have r01 : wr.cell? ⟨go, k, none⟩ = some (.slice (some ⟨gsl, 0, none⟩) h2 sc) := by rw [r0]; show some (Value.slice _ _ _) = _; rw [hlen]
        have hh10 : hh ≤ 10 := by omega
        have HIW := Lib.hid hiway
        have HKL := Lib.hid hkL
        have HROW := Lib.hid hrow2
        have HMD := Lib.hid hmd
        have HHH := Lib.hid hhh
        have HB := Lib.hid hb
        have HOWN := Lib.hid hown
        have HN10 := Lib.hid hn10
        have HH12 := Lib.hid (And.intro hh1 hh2)
        have hwrZ : Z ≤ wr.heap.size := by rw [HZZ.out]; exact hb.size
        clear hkr hbw hOr hs r0 hrow hrow2 hmd hcap hmdm hsub hlm hhh hlen hiway hb hown hn10 hh1 hh2 hkl hkm hms
        go_wp2_with fail
        refine HIW.out.mono ?_
        clear HIW
        rintro e v3 ⟨rfl, hb3⟩
        have hb3' := HB.out.trans (hb3.mono hwrZ)
        have hown3 := HOWN.out.below hb3 (Nat.le_refl _)
        have HB3 := Lib.hid hb3'
        have HOWN3 := Lib.hid hown3
        clear hb3 hb3' hown3
        go_wp2_with fail
        go_loopw [54, 14, 10] (fun s54 _ s10 wz => LawJ Z k hh v2 mids md s54 s10 wz) (fun s54 _ _ _ => hh - (intOf s54).toNat)
        case atStart => exact ⟨0, n10, cap10, A10, Nat.zero_le _, rfl, rfl, by rw [List.take_zero, List.append_nil]; exact HN10.out, HB3.out, by rw [List.take_zero, List.append_nil]; exact HOWN3.out⟩
        case round =>
          clear HB3 HOWN3 d0 d1 r01
          rename World => wz
          obtain ⟨u, n11, cap11, A11, hu, rfl, rfl, hn11, hb, hown⟩ := hrel
          by_cases huh : u < hh
          · have hul : u < md.length := by rw [← HHH.out]; exact huh
            obtain ⟨x, hx⟩ : ∃ x, md[u]? = some x := ⟨_, List.getElem?_eq_getElem hul⟩
            have hno : hasB ((mids.take k).flatten ++ md.take u) x = false := hasB_notW (met_fresh HND.out HMD.out hx)
            have hn11b : n11 ≤ 10 := by
              have h3 : (mids.take (k + 1)).flatten.length ≤ m := take_len HMS.out
              rw [mids_take HMD.out, List.length_append] at h3
              rw [hn11, List.length_append, List.length_take]
              omega
            have hhas := Has_any A11 n11 cap11 ((mids.take k).flatten ++ md.take u) x wz.heap.size wz hn11.symm (by unfold maxLen; omega) hown.els
            rw [hno] at hhas
            have hrz := HROW.out.below hb (by rw [HZZ.out]; exact Nat.le_refl _)
            have hx2 : ((i : Int) :: md ++ [(j : Int)])[1 + u]? = some x := by
              rw [Nat.add_comm, List.cons_append, List.getElem?_cons_succ, List.getElem?_append_left hul]
              exact hx
            obtain ⟨hxl, hx3⟩ := List.getElem?_eq_some_iff.1 hx2
            obtain ⟨g', hg', _, _, rx, _⟩ := hrz.cell1 (f := fun x : Int => .int .i64 x) hxl
            have hgg : gsl = g' := by simpa using hg'
            subst hgg
            rw [hx3] at rx
            have hzz : Z ≤ wz.heap.size := by rw [HZZ.out]; exact hb.size
            have hnx : (mids.take k).flatten ++ md.take (u + 1) = (mids.take k).flatten ++ md.take u ++ [x] := by
              rw [List.take_add_one, hx, List.append_assoc]
              rfl
            have HHAS := Lib.hid hhas
            have HN11 := Lib.hid hn11
            have HB5 := Lib.hid hb
            have HOWN5 := Lib.hid hown
            have HNX := Lib.hid hnx
            have hu1 : 1 + u < h2 := by have := HH12.out; omega
            clear hul hx hno hhas hrz hx2 hxl hx3 hg' hnx hn11 hb hown
            go_wp2_with (first
              | (at_builtin; go_loud (
                  refine wpList_push rfl _ _ _ rfl Z 1 3 (.int .i64 0) 8 Try.underlying30 (by kernel_rfl) rfl (by omega) icell wz #[.int .i64 x] A11 n11 cap11 ((mids.take k).flatten ++ md.take u) HN11.out.symm rfl HOWN5.out 1 [x] rfl rfl wz.heap.size rfl rfl (by simp [Value.oneCell']) (by unfold maxLen; omega) (by omega) hzz ?_
                  intro A9 cap9 w9 hown9 hgrow9 hloc9
                  have hb9 := (HB5.out.alloc hzz (.cells #[.int .i64 x] 3)).grown hgrow9 (by rw [size_alloc']; omega) (fun g e => (HOWN5.out.lt g e).1)
                  have HB9 := Lib.hid hb9
                  have HW9 := Lib.hid hown9
                  clear hown9 hgrow9 hloc9 hb9))
              | (go_at_call 9; refine HHAS.out.mono ?_; rintro e w' ⟨rfl, rfl⟩))
            go_roundw
            case rel => exact ⟨u + 1, n11 + 1, cap9, A9, by omega, by go_num, rfl, by rw [HNX.out, List.length_append, ← HN11.out]; rfl, HB9.out, by rw [HNX.out]; exact HW9.out⟩
            case measure => simp [intOf]; omega
          · obtain rfl : u = hh := by omega
            have hfin : (mids.take (k + 1)).flatten = (mids.take k).flatten ++ md.take u := by rw [mids_take HMD.out, HHH.out, List.take_length]
            have HFIN := Lib.hid hfin
            have HN11 := Lib.hid hn11
            have HB5 := Lib.hid hb
            have HOWN5 := Lib.hid hown
            clear hn11 hb hown hfin
            go_wp2_with fail
            go_roundw
            case rel => exact ⟨k + 1, n11, cap11, A11, (by have := HKL.out; omega), by go_num, rfl, by rw [HFIN.out]; exact HN11.out, HB5.out, by rw [HFIN.out]; exact HOWN5.out⟩
            case measure => (have := HKL.out; simp [intOf]; omega)
      · obtain rfl : k = L := by omega
        obtain ⟨y, hy⟩ : ∃ y, y = (laneR ok (2 ^ m)).1 := ⟨_, rfl⟩
        have hwall := ref_WayWall ok m i j A n c l wr hi' hj' HOK.out HL.out HG.out ((HR.out.below hbw).more hzw)
        rw [← hy] at hwall
        have hLP := HLP.out
        rw [← hy] at hLP
        obtain ⟨py, hpy⟩ : ∃ py, py = pop y := ⟨_, rfl⟩
        rw [← hpy] at hLP
        subst hLP
        have HWALL := Lib.hid hwall
        have HPY := Lib.hid hpy
        have HBW := Lib.hid hbw
        clear hb hown hn10 hkr hbw hwall hpy hy
        go_wp2_with fail
        refine HWALL.out.mono ?_
        clear HWALL
        rintro e v4 ⟨rfl, hb4⟩
        have HB4 := Lib.hid (HBW.out.trans (hb4.mono hzw))
        clear hb4
        go_wp2_with fail
        refine (Size_any y v4).mono ?_
        rintro e v5 ⟨rfl, rfl⟩
        rw [← HPY.out]
        go_wp2_with fail
        go_ret
        exact ⟨rfl, HB4.out⟩
  · have HW := Lib.hid (lanes_Apart_bad N a b A n c l _ h0 hl hn hr0)
    have h1 : (waysCheck N l a b != 0) = true := by simpa using h0
    have h2 : (waysCheck N l a b == waysCheck N l a b) = true := by simp
    have HGC0 := Lib.hid (fun v (hv : Els v v.heap.size 3 Ed.cells A l) => ref_WaysCheck N a b A n c l v HL.out HM.out HC.out hv)
    obtain ⟨x, hx⟩ : ∃ x, x = waysCheck N l a b := ⟨_, rfl⟩
    rw [← hx] at h1 h2 HW HGC0
    clear hr hr0 hb0 hB0 hl hn hc h0 hx
    go_enter Try.func3, Try.ntmps3
    go_wp2_with fail
    refine HW.out.mono ?_
    clear HW
    rintro e v1 ⟨rfl, hb1⟩
    have hk1 := HK0.out.below hb1 (by rw [size_alloc']; omega)
    have hb1' := HB0.out.trans (hb1.mono (by rw [size_alloc']; omega))
    have hz1 := hb1'.size
    have HB1 := Lib.hid hb1'
    clear c0 c1 hb1 hb1'
    have c0 := hk1.cell 0
    have c1 := hk1.cell 1
    clear hk1
    go_wp2_with fail
    refine (HGC0.out v1 ((HR.out.below HB1.out).more hz1)).mono ?_
    rintro e v2 ⟨rfl, hb2⟩
    have HB2 := Lib.hid (HB1.out.trans (hb2.mono hz1))
    clear hb2
    go_wp2_with fail
    go_ret
    exact ⟨rfl, HB2.out⟩
theorem LanesApart_row (N : Int) (s : Sls (Int × Int × Int)) (a b : Int) (w : World) (_hN : OkI N) (h : s.Good w w.heap.size 3 (fun p => [.int .i64 p.1, .int .i64 p.2.1, .int .i64 p.2.2]) (fun p => OkI p.1 ∧ OkI p.2.1 ∧ OkI p.2.2)) (_ha : OkI a) (_hb : OkI b) :
    Calls Try.prog 3 #[.agg #[.int .i64 N, s.val], .int .i64 a, .int .i64 b] w fun e w' => e = .returned (.bool true) ∧ Below w.heap.size w w' :=
  law_LanesApart N a b s.A s.l.length s.c (s.l.map Ed.of) w (by simp) h.1 h.2.1 (h.2.2.1.map_ Ed.of fun _ _ => rfl)
end Go.Proofs.Ytjkfogkpacmdlaa
