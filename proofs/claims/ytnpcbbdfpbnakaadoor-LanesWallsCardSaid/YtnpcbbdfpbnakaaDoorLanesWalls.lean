/- The statement LanesWalls: its law's walk. Conditions: the edges read as a list; the table. -/
import Derived.Test.YtnpcbbdfpbnakaaDoorLaneB
import Derived.Test.YtnpcbbdfpbnakaaDoorLaneR
import Derived.Test.YtnpcbbdfpbnakaaDoorOpen
namespace Go.Proofs.YtnpcbbdfpbnakaaDoor
open Go.RowKit
attribute [local go_sem] w_eq0 w_ne0 w_eq1 w_eq w_ne

theorem bit_shl_mask {N : Nat} (hN : N ≤ 10) {k : Nat} (hk : k < 2 ^ N) (j : Nat) (h : (nw k).getLsbD j = true) : j < N := by
  have hp := pow_lim hN
  have e : (nw k).toNat = k := by
    have := wN_nw (k := k) (by omega)
    unfold wN at this
    omega
  rcases Nat.lt_or_ge j N with hj | hj
  · exact hj
  · rw [bit_lt (x := nw k) (n := N) (by rw [e]; exact hk) hj] at h
    cases h

set_option maxRecDepth 100000 in
set_option maxHeartbeats 1000000 in
theorem law_LanesWalls (N a b : Int) (A : Option Addr) (n c : Nat) (l : List Ed) (w : World) (htab : TabOk w) (hl : l.length = n) (hn : n ≤ maxLen) (hc : n ≤ c) (hr : Els w w.heap.size 3 Ed.cells A l) :
    Calls Tryd.prog 12 #[.agg #[.int .i64 N, .slice A n c], .int .i64 a, .int .i64 b] w fun e w' => e = .returned (.bool true) ∧ Below w.heap.size w w' := by
  have h0w : 0 < w.heap.size := Nat.lt_of_le_of_lt (Nat.zero_le _) htab.1
  have hb0 := (Below.refl w.heap.size w).alloc (Nat.le_refl _) (.cells #[.int .i64 N, .slice A n c] 31)
  have hB0 := Blk.new w 31 #[.int .i64 N, .slice A n c]
  have hr0 : Els (w.alloc (.cells #[.int .i64 N, .slice A n c] 31)) (w.alloc (.cells #[.int .i64 N, .slice A n c] 31)).heap.size 3 Ed.cells A l := (hr.alloc (Nat.le_refl _) _).more (by rw [size_alloc']; omega)
  have ht0 := htab.below hb0 h0w
  have c0 := hB0.cell 0
  have c1 := hB0.cell 1
  have HL := Lib.hid hl
  have HR := Lib.hid hr
  have HM := Lib.hid hn
  have HC := Lib.hid hc
  have HB0 := Lib.hid hb0
  have HK0 := Lib.hid hB0
  by_cases h0 : waysCheck N l a b = 0
  · obtain ⟨hgc, i, j, rfl, rfl, hi, hj, hab, hadj⟩ := ways_ok h0
    obtain ⟨m, rfl, hg⟩ := graph_good hgc
    have hm := hg.n10
    have hi' : i < m := by omega
    have hj' : j < m := by omega
    obtain ⟨ok, hok⟩ := bool_of (fun k => wBut (nw k) (alW m i j) = w0 ∧ ¬ Rch (Adj (withoutE l (nw k))) i j)
    obtain ⟨ok2, hok2⟩ := bool_of (fun k => ((nw k).getLsbD i = false ∧ (nw k).getLsbD j = false) ∧ ¬ Rch (Adj (withoutE l (nw k))) i j)
    have hsame : laneP (alW m i j) ok ((alW m i j).toNat + 1) = (laneR ok2 (2 ^ m)).1 := by
      have hsub : ∀ k, ok k = true → ∀ q, (nw k).getLsbD q = true → (alW m i j).getLsbD q = true := fun k hk => (but_zero_iff _ _).1 ((hok k).1 hk).1
      have hall : ok (alW m i j).toNat = true := by
        refine (hok _).2 ⟨?_, ?_⟩
        · rw [nw_toNat]
          exact (but_zero_iff _ _).2 fun _ h => h
        · rw [nw_toNat]
          intro hr
          have := rch_closed (fun q => q = i) rfl (fun c q hc hs => by
            subst hc
            obtain ⟨h1, _, h3⟩ := (adj_without l (alW m c j) c q).1 hs
            obtain ⟨_, hqN⟩ := adj_low hg c q h1
            rcases Nat.decEq q c with hqc | hqc
            · exfalso
              by_cases hqj : q = j
              · subst hqj
                unfold Adj at h1
                rw [hadj] at h1
                cases h1
              · rw [(alW_bit hm hi' hj' q).2 ⟨hqN, hqc, hqj⟩] at h3
                cases h3
            · exact hqc) hr
          exact hab this.symm
      have hpl := pow_lim hm
      rw [lane_same hsub hall (alW_le hm hi' hj') (by omega)]
      have key : ∀ k, k ≤ 2 ^ m → laneR ok k = laneR ok2 k := by
        intro k
        induction k with
        | zero => intro _; rfl
        | succ k ih =>
          intro hk
          have he : ok k = ok2 k := by
            rw [Bool.eq_iff_iff, hok, hok2]
            refine and_congr_left fun _ => ?_
            rw [but_zero_iff]
            constructor
            · intro h
              constructor
              · rcases hx : (nw k).getLsbD i with _ | _
                · rfl
                · exact absurd rfl ((alW_bit hm hi' hj' i).1 (h i hx)).2.1
              · rcases hx : (nw k).getLsbD j with _ | _
                · rfl
                · exact absurd rfl ((alW_bit hm hi' hj' j).1 (h j hx)).2.2
            · rintro ⟨h1, h2⟩ q hq
              refine (alW_bit hm hi' hj' q).2 ⟨bit_shl_mask hm (by omega) q hq, fun e => ?_, fun e => ?_⟩
              · rw [e, h1] at hq; cases hq
              · rw [e, h2] at hq; cases hq
          rw [laneR, laneR, ih (by omega), he]
      rw [key _ (Nat.le_refl _)]
    have HW := Lib.hid (lanes_Wall_ok ok m i j A n c l _ h0 hok hl hn hr0 ht0)
    rw [hsame] at HW
    have HG := Lib.hid hg
    have HZ := Lib.hid h0
    have HOK2 := Lib.hid hok2
    obtain ⟨y, hy⟩ : ∃ y, y = (laneR ok2 (2 ^ m)).1 := ⟨_, rfl⟩
    have HY := Lib.hid hy
    rw [← hy] at HW
    clear hr hr0 ht0 hb0 hB0 hl hn hc htab h0 hgc hg hab hadj hok hok2 hsame hy
    go_enter Tryd.func12, Tryd.ntmps12
    go_wp2_with fail
    refine HW.out.mono ?_
    clear HW
    rintro e v1 ⟨rfl, hb1⟩
    have hk1 := HK0.out.below hb1 (by rw [size_alloc']; omega)
    have hb1' := HB0.out.trans (hb1.mono (by rw [size_alloc']; omega))
    have hz1 := hb1'.size
    have hlt1 := hk1.lt
    have HB1 := Lib.hid hb1'
    have HK1 := Lib.hid hk1
    clear c0 c1 hb1 hb1'
    have c0 := hk1.cell 0
    have c1 := hk1.cell 1
    clear hk1
    have HGC := Lib.hid (ref_WaysCheck m i j A n c l v1 HL.out HM.out HC.out ((HR.out.below HB1.out).more hz1))
    rw [HZ.out] at HGC
    go_wp2_with fail
    refine HGC.out.mono ?_
    clear HGC
    rintro e v2 ⟨rfl, hb2⟩
    have hk2 := HK1.out.below hb2 hlt1
    have hb2' := HB1.out.trans (hb2.mono hz1)
    have hz2 := hb2'.size
    have HB2 := Lib.hid hb2'
    clear c0 c1 hb2 hb2'
    have c0 := hk2.cell 0
    have c1 := hk2.cell 1
    clear hk2
    have HGD := Lib.hid (ref_WayWall ok2 m i j A n c l v2 hi' hj' HOK2.out HL.out HG.out ((HR.out.below HB2.out).more hz2))
    rw [← HY.out] at HGD
    go_wp2_with fail
    refine HGD.out.mono ?_
    clear HGD
    rintro e v3 ⟨rfl, hb3⟩
    have HB3 := Lib.hid (HB2.out.trans (hb3.mono hz2))
    have hyy : (y == y) = true := by simp
    clear hb3
    go_wp2_with fail
    go_ret
    exact ⟨rfl, HB3.out⟩
  · have HW := Lib.hid (lanes_Wall_bad N a b A n c l _ h0 hl hn hr0)
    have h1 : (waysCheck N l a b != 0) = true := by simpa using h0
    have h2 : (waysCheck N l a b == waysCheck N l a b) = true := by simp
    have HGC0 := Lib.hid (fun v (hv : Els v v.heap.size 3 Ed.cells A l) => ref_WaysCheck N a b A n c l v HL.out HM.out HC.out hv)
    obtain ⟨x, hx⟩ : ∃ x, x = waysCheck N l a b := ⟨_, rfl⟩
    rw [← hx] at h1 h2 HW HGC0
    clear hr hr0 ht0 hb0 hB0 hl hn hc htab h0 hx
    go_enter Tryd.func12, Tryd.ntmps12
    go_wp2_with fail
    refine HW.out.mono ?_
    clear HW
    rintro e v1 ⟨rfl, hb1⟩
    have hk1 := HK0.out.below hb1 (by rw [size_alloc']; omega)
    have hb1' := HB0.out.trans (hb1.mono (by rw [size_alloc']; omega))
    have hz1 := hb1'.size
    have HB1 := Lib.hid hb1'
    clear c0 c1 hb1 hb1'
    have c0 := hk1.cell 0
    have c1 := hk1.cell 1
    clear hk1
    go_wp2_with fail
    refine (HGC0.out v1 ((HR.out.below HB1.out).more hz1)).mono ?_
    rintro e v2 ⟨rfl, hb2⟩
    have HB2 := Lib.hid (HB1.out.trans (hb2.mono hz1))
    clear hb2
    go_wp2_with fail
    go_ret
    exact ⟨rfl, HB2.out⟩
theorem LanesWalls_row (N : Int) (s : Sls (Int × Int × Int)) (a b : Int) (w : World) (htab : TabOk w) (_hN : OkI N) (h : s.Good w w.heap.size 3 (fun p => [.int .i64 p.1, .int .i64 p.2.1, .int .i64 p.2.2]) (fun p => OkI p.1 ∧ OkI p.2.1 ∧ OkI p.2.2)) (_ha : OkI a) (_hb : OkI b) :
    Calls Tryd.prog 12 #[.agg #[.int .i64 N, s.val], .int .i64 a, .int .i64 b] w fun e w' => e = .returned (.bool true) ∧ Below w.heap.size w w' :=
  law_LanesWalls N a b s.A s.l.length s.c (s.l.map Ed.of) w htab (by simp) h.1 h.2.1 (h.2.2.1.map_ Ed.of fun _ _ => rfl)
end Go.Proofs.YtnpcbbdfpbnakaaDoor
