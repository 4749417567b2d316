/- The tour: the program's walk. Conditions: the edges read as a list; the table. -/
import Derived.Test.YtjkfogkpacmdlaaDoorTourA
import Derived.Test.YtjkfogkpacmdlaaDoorHeld
import Derived.Test.YtjkfogkpacmdlaaDoorOwnIn
import Derived.BigRegionIn
import Derived.Sort.QuietIn
import Derived.WalkMore
namespace Go.Proofs.YtjkfogkpacmdlaaDoor
open Go.RowKit Go.Shelf
attribute [local go_sem] Oper.semAt_some
attribute [local go_sem ↓] w_and w_or w_xor w_andNot w_and1 w_and255 w_xor1 w_or0 w_shl w_shl1 w_shr w_sub w_add w_sub1 w_add1
attribute [local go_sem] w_eq0 w_ne0 w_eq1 w_eq w_ne

/-- What the program tells of a graph that may be. -/
def TourRes (m : Nat) (l : List Ed) (x : Int) (k : Nat) (q : List Int) : Prop :=
  (m = 0 → x = 5 ∧ k = 0) ∧ (0 < m → ¬ mayT m l (stT m l) (stT m l) → x = 5 ∧ k = 0) ∧ (0 < m → mayT m l (stT m l) (stT m l) → x = 0 ∧ q = tourT m l)
theorem par_even {N : Nat} {l : List Ed} {s : Nat} : par N l s s ↔ ∀ i, i < N → deg l i % 2 = 0 := by
  unfold par
  refine ⟨fun h i hi => ?_, fun h i hi => ?_⟩
  · have := h i hi
    have h2 : ¬ deg l i % 2 = 1 := fun hh => this.1 hh Iff.rfl
    omega
  · have := h i hi
    exact ⟨fun hh => by omega, fun hh => absurd Iff.rfl hh⟩
def lenAt (w : World) (b : Nat) : Nat := match w.cell? ⟨b, 0, none⟩ with
  | some (.slice _ k _) => k
  | _ => 0
theorem lenAt_blk {w : World} {b : Nat} {t : TypeId} {A : Option Addr} {k c : Nat} (h : Blk w b t #[.slice A k c]) : lenAt w b = k := by
  unfold lenAt
  rw [h.cell 0]
  rfl
theorem held_grown {w w' : World} {g : Nat} (h : w.grownBy w' (some g)) : Held [g] w w' :=
  ⟨h.os, h.tape, h.output, h.size, fun k hk hx => h.block k hk (fun e => hx (by
    have e' : k = g := by simpa using e
    rw [e']; simp))⟩
theorem held_grows {g : Nat} {w w' : World} (h : Held [g] w w') : w.grownBy w' (some g) :=
  ⟨h.os, h.tape, h.output, h.size, fun k hk hx => h.block k hk (fun hm => hx (by rw [List.mem_singleton.1 hm]))⟩
theorem kpe_held {ex : List Nat} {bx : Nat} {t : TypeId} {A B : World} (h : Held ex A B) (hb : bx ∉ ex) (h0 : 0 ∉ ex) : KpE bx t A B :=
  ⟨fun _ hv => h.boxed hv hb, fun ht => ht.block h.size (h.block 0 ht.1 h0)⟩
theorem bits_front {x : BitVec 32} {pre : List Nat} {j : Nat} (h : pre ++ [j] <+: bitsL x) {j' : Nat} (hj : x.getLsbD j' = true) (hlt : j' < j) : j' ∈ pre := by
  obtain ⟨z, hz⟩ := h
  have hm := mem_bitsL.2 hj
  have hs : (bitsL x).Pairwise (· < ·) := List.Pairwise.filter _ List.pairwise_lt_range
  rw [← hz] at hm hs
  rcases List.mem_append.1 hm with h1 | h1
  · rcases List.mem_append.1 h1 with h2 | h2
    · exact h2
    · rw [List.mem_singleton.1 h2] at hlt; omega
  · have := (List.pairwise_append.1 hs).2.2 j (by simp) j' h1
    omega
/-- While one walks: what is left, where one is, the way so far. -/
def TourI (w : World) (S B0 ρ R L m s : Nat) (l : List Ed) (ds : List Deferred) (wr : World) : Prop :=
  ∃ (l' : List Ed) (a : Nat) (q : List Int) (gl c9 : Nat), GoodG m l' ∧ a < m ∧ par m l' a s ∧ conn m l' a ∧ q ++ tourR m l'.length l' a = (s : Int) :: tourR m l.length l s ∧ q.length + l'.length = l.length + 1 ∧ Below S w wr ∧
    Blk wr R 37 #[.slice (some ⟨ρ, 0, none⟩) m m] ∧ Blk wr (R + 1) 3 #[.int .i64 a] ∧ Blk wr (L + 1) 25 #[.slice (some ⟨gl, 0, none⟩) q.length c9] ∧
    Own wr B0 39 1 wcell (some ⟨ρ, 0, none⟩) m (nearL m l') ∧ Own wr L 3 1 icell (some ⟨gl, 0, none⟩) c9 q ∧ gl ≠ L + 1 ∧ Marks S ds wr
/-- In a round: those that were tried. -/
def TourB (B0 ρ R L m a gl c9 : Nat) (l' : List Ed) (q : List Int) (pre : List Nat) (W : World) : Prop :=
  (∀ y ∈ pre, okT m l' a y = false) ∧ Own W B0 39 1 wcell (some ⟨ρ, 0, none⟩) m (nearL m l') ∧ Own W L 3 1 icell (some ⟨gl, 0, none⟩) c9 q ∧ Blk W (R + 1) 3 #[.int .i64 a] ∧ Blk W (L + 1) 25 #[.slice (some ⟨gl, 0, none⟩) q.length c9]
/-- The way out: where one goes. -/
def TourX (B0 ρ R L m a : Nat) (l' : List Ed) (q : List Int) (cd : Code) (_ : List Nat) (W : World) : Prop :=
  cd = Code.exit 3 ∧ ∃ j gl c9 : Nat, j < m ∧ okT m l' a j = true ∧ (∀ i, i < j → okT m l' a i = false) ∧ gl ≠ L + 1 ∧ Own W B0 39 1 wcell (some ⟨ρ, 0, none⟩) m (nearL m (cutE l' a j)) ∧ Own W L 3 1 icell (some ⟨gl, 0, none⟩) c9 (q ++ [(j : Int)]) ∧
    Blk W (R + 1) 3 #[.int .i64 j] ∧ Blk W (L + 1) 25 #[.slice (some ⟨gl, 0, none⟩) (q.length + 1) c9]
set_option maxRecDepth 100000 in
set_option maxHeartbeats 4000000 in
theorem tour_Tour (N : Int) (A : Option Addr) (n c : Nat) (l : List Ed) (w : World) (hl : l.length = n) (hn : n ≤ maxLen) (hr : Els w w.heap.size 3 Ed.cells A l) (htab : TabOk w) :
    Calls Tryd.prog 5 #[.agg #[.int .i64 N, .slice A n c]] w fun e w' => ∃ (A' : Option Addr) (k cap : Nat) (x : Int) (q : List Int), e = .returned (.tuple #[.slice A' k cap, .int .i64 x]) ∧ Below w.heap.size w w' ∧
      (graphCheck N l ≠ 0 → x = graphCheck N l ∧ k = 0) ∧ (graphCheck N l = 0 → q.length = k ∧ TourRes N.toNat l x k q ∧ Els w' w'.heap.size 1 icell A' q) := by
  have h0w : 0 < w.heap.size := Nat.lt_of_le_of_lt (Nat.zero_le _) htab.1
  obtain ⟨S, hS⟩ : ∃ S, S = w.heap.size := ⟨_, rfl⟩
  obtain ⟨W1, hW1⟩ : ∃ W1, W1 = w.alloc (.cells #[.int .i64 N, .slice A n c] 24) := ⟨_, rfl⟩
  have hb1 : Below S w W1 := by rw [hW1, hS]; exact (Below.refl _ w).alloc (Nat.le_refl _) _
  have hk1 : Blk W1 S 24 #[.int .i64 N, .slice A n c] := by rw [hW1, hS]; exact Blk.new w _ _
  have hz1 : W1.heap.size = S + 1 := by rw [hW1, size_alloc', hS]
  rw [← hS] at hr h0w
  have HCK := Lib.hid (graph_Check N A n c l W1 hl hn ((hr.below hb1).more (by omega)))
  have HNE : Hid (∀ m : Nat, N = m → GoodG m l → ∀ v, Below S w v → Calls Tryd.prog 12 #[.agg #[.int .i64 m, .slice A n c]] v fun e w' => ∃ A', e = .returned (.slice A' m m) ∧ Below v.heap.size v w' ∧ Own w' (v.heap.size + 1) 39 1 wcell A' m (nearL m l)) := Lib.hid fun m _ hg v hv =>
    graph_Near m A n c l v hl hg ((hr.below hv).more (by have := hv.size; omega))
  have HTAB : Hid (∀ v, Below S w v → TabOk v) := Lib.hid fun v hv => htab.below hv h0w
  have HL := Lib.hid hl
  have HB1 := Lib.hid hb1
  have HK1 := Lib.hid hk1
  have HS := Lib.hid hS
  have HW1 := Lib.hid hW1
  have c0 := (Blk.new w 24 #[.int .i64 N, .slice A n c]).cell 0
  have c1 := (Blk.new w 24 #[.int .i64 N, .slice A n c]).cell 1
  clear hr hb1 hk1 htab hl hn hS hW1
  refine (callsIn_wide (n := 9)).1 ?_
  refine callsIn_of_wp_marks Tryd.func5 rfl trivial ?_ rfl
  simp only [Tryd.ntmps5, List.size_toArray, List.length_cons, List.length_nil, Nat.reduceAdd, Nat.reduceSub, Array.replicate_succ, Array.replicate_zero, List.push_toArray, List.append_toArray, List.nil_append, List.cons_append]
  refine wpIn_wide.2 ?_
  go_wp2_with fail
  go_step3
  go_wp2_with fail
  rw [← HS.out, ← HW1.out]
  refine HCK.out.mono ?_
  clear HCK
  rintro e v1 ⟨rfl, hb2⟩
  have hbv := HB1.out.trans (hb2.mono (by omega))
  have hkv := HK1.out.below hb2 (by omega)
  have HBV := Lib.hid hbv
  have HKV := Lib.hid hkv
  have hzv := hb2.size
  clear c0 c1 hb2 hbv
  have c0 := hkv.cell 0
  have c1 := hkv.cell 1
  clear hkv
  by_cases h0 : graphCheck N l = 0
  · obtain ⟨m, rfl, hg⟩ := graph_good h0
    have hm10 := hg.n10
    have HG := Lib.hid hg
    have HG0 := Lib.hid h0
    rw [h0]
    by_cases hm0 : m = 0
    · subst hm0
      clear h0 hg
      go_wp2_with fail
      refine bodyPostM_ret (Marks.nil S v1) fun w' hw' => ⟨.tuple #[.slice none 0 0, .int .i64 5], by simp [results, Tryd.results5, go_sem], ?_⟩
      exact ⟨none, 0, 0, 5, [], rfl, by rw [← HS.out]; exact HBV.out.trans hw'.1, fun h => absurd HG0.out h, fun _ => ⟨rfl, ⟨fun _ => ⟨rfl, rfl⟩, fun h => absurd h (by simp), fun h => absurd h (by simp)⟩, fun h => absurd h (by simp)⟩⟩
    · have hm0b : ((m : Int) == 0) = false := by simp; omega
      have hmI : (m : Int) ≠ 0 := by omega
      have HNN := Lib.hid (HNE.out m rfl hg v1 HBV.out)
      clear h0 hg HNE
      go_wp2_with fail
      refine HNN.out.mono ?_
      clear HNN
      rintro e v2 ⟨A2, rfl, hb2, ho2⟩
      have hg2 : 0 < (nearL m l).length := by rw [nearL_length]; omega
      obtain ⟨ρ, rfl, hρ1, hρ2⟩ := ho2.form_ hg2
      obtain ⟨R, hR⟩ : ∃ R, R = v2.heap.size := ⟨_, rfl⟩
      obtain ⟨V, hV⟩ : ∃ V, V = (v2.alloc (.cells #[.slice (some ⟨ρ, 0, none⟩) m m] 37)).alloc (.cells #[.int .i64 0] 3) := ⟨_, rfl⟩
      have hbV : Below R v2 V := by rw [hV, hR]; exact ((Below.refl _ v2).alloc (Nat.le_refl _) _).alloc (by rw [size_alloc']; omega) _
      have hkR : Blk V R 37 #[.slice (some ⟨ρ, 0, none⟩) m m] := by rw [hV, hR]; exact (Blk.new v2 _ _).alloc _
      have hkP : Blk V (R + 1) 3 #[.int .i64 0] := by
        have h := Blk.new (v2.alloc (.cells #[.slice (some ⟨ρ, 0, none⟩) m m] 37)) 3 #[.int .i64 0]
        rw [size_alloc', ← hR, ← hV] at h
        exact h
      have hoV : Own V (v1.heap.size + 1) 39 1 wcell (some ⟨ρ, 0, none⟩) m (nearL m l) := by rw [hV]; exact (ho2.alloc _).alloc _
      have hzV : V.heap.size = R + 2 := by rw [hV, size_alloc', size_alloc', hR]
      have hz2 := hb2.size
      have hSv := HBV.out.size
      have hbw2 : Below S w V := (HBV.out.trans (hb2.mono (by rw [HS.out]; omega))).trans (hbV.mono (by rw [HS.out]; omega))
      have hSR : S < R := by have := HKV.out.lt; omega
      have hρR : ρ < R := by rw [hR]; exact hρ2
      have HBW := Lib.hid hbw2
      have HKR := Lib.hid hkR
      have HKP := Lib.hid hkP
      have HOV := Lib.hid hoV
      have HR := Lib.hid hR
      have HV := Lib.hid hV
      obtain ⟨B0, hB0⟩ : ∃ B0, B0 = v1.heap.size + 1 := ⟨_, rfl⟩
      rw [← hB0] at HOV
      have hρB : B0 ≤ ρ := by rw [hB0]; exact hρ1
      have hρS : S < ρ := by rw [HS.out]; omega
      have hρP : blkOf (some (⟨ρ, 0, none⟩ : Addr)) ≠ some (R + 1) := by simp [blkOf]; omega
      clear c0 c1 ho2 hg2 hρ1 hρ2 hR hV hbV hkR hkP hoV hb2 hbw2 hB0 hz2 hzv
      go_wp2_with fail
      rw [← HR.out]
      rw [← HV.out]
      clear HV HR
      go_loopw [23] (fun s23 wr => ∃ (k s : Nat), k ≤ m ∧ s23 = .int .i64 k ∧ s < m ∧ StI l 0 k s ∧ (∀ i, i < k → deg l i % 2 = 0) ∧ Below S w wr ∧ V.heap.size = wr.heap.size ∧ Blk wr R 37 #[.slice (some ⟨ρ, 0, none⟩) m m] ∧ Blk wr (R + 1) 3 #[.int .i64 s] ∧ Own wr B0 39 1 wcell (some ⟨ρ, 0, none⟩) m (nearL m l)) (fun s23 _ => m - (intOf s23).toNat)
      case atStart => exact ⟨0, 0, Nat.zero_le _, rfl, by omega, StI.here l 0, fun i hi => by omega, HBW.out, rfl, HKR.out, HKP.out, HOV.out⟩
      case round =>
        clear HBW HKR HKP HOV
        rename World => wr
        obtain ⟨k, s, hk, rfl, hsm, hst, hev, hb, hsz, hkR, hkP, ho⟩ := hrel
        have HB := Lib.hid hb
        have HSZ := Lib.hid hsz
        have HKR := Lib.hid hkR
        have HKP := Lib.hid hkP
        have HO := Lib.hid ho
        have HST := Lib.hid hst
        have HEV := Lib.hid hev
        by_cases hlt : k < m
        · have hkl : k < (nearL m l).length := by rw [nearL_length]; exact hlt
          have hsl : s < (nearL m l).length := by rw [nearL_length]; exact hsm
          obtain ⟨b1, hb1', _, _, x0, _⟩ := ho.cell1 (f := fun x : BitVec 32 => .int .u32 (wN x)) hkl
          obtain rfl : ρ = b1 := by simpa using hb1'
          obtain ⟨b2, hb2', _, _, y0, _⟩ := ho.cell1 (f := fun x : BitVec 32 => .int .u32 (wN x)) hsl
          obtain rfl : ρ = b2 := by simpa using hb2'
          rw [← lw_at _ k hkl] at x0
          rw [← lw_at _ s hsl] at y0
          have r0 := hkR.cell 0
          have p0 := hkP.cell 0
          have p1 := hkP.frozen 0
          have hpop : pop (lw (nearL m l) k) = deg l k := pop_near HG.out hlt
          have hx0 : lw (nearL m l) k ≠ w0 ↔ 0 < deg l k := by rw [near_ne0 HG.out hlt, deg_pos HG.out]
          have hy0 : lw (nearL m l) s ≠ w0 ↔ 0 < deg l s := by rw [near_ne0 HG.out hsm, deg_pos HG.out]
          obtain ⟨x, hx⟩ : ∃ x, x = lw (nearL m l) k := ⟨_, rfl⟩
          obtain ⟨y, hy⟩ : ∃ y, y = lw (nearL m l) s := ⟨_, rfl⟩
          rw [← hx] at x0 hpop hx0
          rw [← hy] at y0 hy0
          have HON := Lib.hid (OnesCount32_any x wr)
          obtain ⟨d, hd⟩ : ∃ d, d = pop x := ⟨_, rfl⟩
          have hdd : d = deg l k := by rw [hd, hpop]
          rw [← hd] at HON
          have hd45 : d ≤ 45 := by have := deg_le l k; have := HG.out.m45; omega
          have HD := Lib.hid hdd
          have HX0 := Lib.hid hx0
          have HY0 := Lib.hid hy0
          clear hb1' hb2' hkl hsl hpop hx0 hy0 hx hy hd hdd hst hev hb hsz hkR hkP ho
          by_cases hodd : d % 2 = 1
          · have hmod : Int.tmod (d : Int) 2 = 1 := by rw [show Int.tmod (d : Int) 2 = ((d % 2 : Nat) : Int) from (Int.ofNat_tmod d 2).symm, hodd]; rfl
            have HNO : Hid (¬ mayT m l (stT m l) (stT m l)) := Lib.hid fun h => by
              have := par_even.1 h.1 k hlt
              rw [← HD.out] at this
              omega
            clear hodd
            go_wp2_with fail
            refine HON.out.mono ?_
            clear HON
            rintro e w' ⟨rfl, qn, rfl⟩
            have HBN := Lib.hid (below_drewN HB.out qn)
            go_wp2_with fail
            refine bodyPostM_ret (Marks.nil S _) fun w' hw' => ⟨.tuple #[.slice none 0 0, .int .i64 5], by simp [results, Tryd.results5, go_sem], ?_⟩
            exact ⟨none, 0, 0, 5, [], rfl, by rw [← HS.out]; exact HBN.out.trans hw'.1, fun h => absurd HG0.out h, fun _ => ⟨rfl, ⟨fun _ => ⟨rfl, rfl⟩, fun _ _ => ⟨rfl, rfl⟩, fun _ h => absurd h HNO.out⟩, fun h => absurd h (by simp)⟩⟩
          · have hmod : Int.tmod (d : Int) 2 = 0 := by rw [show Int.tmod (d : Int) 2 = ((d % 2 : Nat) : Int) from (Int.ofNat_tmod d 2).symm, show d % 2 = 0 by omega]; rfl
            have HEV2 : Hid (∀ i, i < k + 1 → deg l i % 2 = 0) := Lib.hid fun i hi => by
              by_cases hik : i = k
              · subst hik; rw [← HD.out]; omega
              · exact HEV.out i (by omega)
            have HST2 := Lib.hid HST.out.up
            clear hodd
            by_cases hx0 : x = w0
            · have hxb : (x != w0) = false := by simp [hx0]
              have hz : ¬ 0 < deg l k := fun h => HX0.out.2 h hx0
              have HST3 : Hid (StI l 0 (k + 1) s) := Lib.hid (by have := HST2.out; rwa [if_neg (fun h => hz h.1)] at this)
              clear hx0 hz
              go_wp2_with fail
              refine HON.out.mono ?_
              clear HON
              rintro e w' ⟨rfl, qn, rfl⟩
              go_wp2_with fail
              go_roundw
              case rel => exact ⟨k + 1, s, by omega, by go_num, hsm, HST3.out, HEV2.out, below_drewN HB.out qn, HSZ.out, HKR.out.drewN qn, HKP.out.drewN qn, HO.out.drewN qn⟩
              case measure => simp [intOf]; omega
            · have hxb : (x != w0) = true := by simpa using hx0
              have hdk := HX0.out.1 hx0
              by_cases hy0 : y = w0
              · have hyb : (y == w0) = true := by simpa using hy0
                have hds : deg l s = 0 := Classical.byContradiction fun h => HY0.out.2 (by omega) hy0
                have HST3 : Hid (StI l 0 (k + 1) k) := Lib.hid (by have := HST2.out; rwa [if_pos ⟨hdk, hds⟩] at this)
                clear hx0 hy0 hdk hds
                go_wp2_with fail
                refine HON.out.mono ?_
                clear HON
                rintro e w' ⟨rfl, qn, rfl⟩
                have r0' := (HKR.out.drewN qn).cell 0
                have p0' := (HKP.out.drewN qn).cell 0
                go_wp2_with fail
                go_roundw
                case rel => exact ⟨k + 1, k, by omega, by go_num, hlt, HST3.out, HEV2.out, (below_drewN HB.out qn).setCell (p := ⟨R + 1, 0, none⟩) (show S ≤ R + 1 by omega) _, by rw [HSZ.out]; simp [World.setCell], (HKR.out.drewN qn).far (p := ⟨R + 1, 0, none⟩) (show R ≠ R + 1 by omega) _, (HKP.out.drewN qn).put 0 _, (HO.out.drewN qn).far (p := ⟨R + 1, 0, none⟩) hρP _⟩
                case measure => simp [intOf]; omega
              · have hyb : (y == w0) = false := by simpa using hy0
                have hds := HY0.out.1 hy0
                have HST3 : Hid (StI l 0 (k + 1) s) := Lib.hid (by have := HST2.out; rwa [if_neg (fun h => by omega)] at this)
                clear hx0 hy0 hdk hds
                go_wp2_with fail
                refine HON.out.mono ?_
                clear HON
                rintro e w' ⟨rfl, qn, rfl⟩
                have r0' := (HKR.out.drewN qn).cell 0
                have p0' := (HKP.out.drewN qn).cell 0
                go_wp2_with fail
                go_roundw
                case rel => exact ⟨k + 1, s, by omega, by go_num, hsm, HST3.out, HEV2.out, below_drewN HB.out qn, HSZ.out, HKR.out.drewN qn, HKP.out.drewN qn, HO.out.drewN qn⟩
                case measure => simp [intOf]; omega
        · obtain rfl : k = m := by omega
          have hss : s = stT k l := hst.eq_
          have HPAR : Hid (par k l s s) := Lib.hid (par_even.2 hev)
          obtain ⟨qb, hqb⟩ : ∃ qb : Bool, qb = true ↔ conn k l s := ⟨open Classical in decide (conn k l s), by simp⟩
          have r0 := hkR.cell 0
          have p0 := hkP.cell 0
          have hz := hb.size
          have HONE := Lib.hid (tour_one k (some ⟨ρ, 0, none⟩) k s l qb wr HG.out hsm hqb ho.els (HTAB.out _ hb) (by omega))
          have HSS := Lib.hid hss
          have HQB := Lib.hid hqb
          clear hst hev hb hsz hkR hkP ho hss hqb HST HEV
          go_wp2_with fail
          refine HONE.out.mono ?_
          clear HONE
          rintro e w4 ⟨rfl, hb4⟩
          have HB4 := Lib.hid hb4
          clear hb4 r0 p0
          cases qb with
          | false =>
            have HNO : Hid (¬ mayT k l (stT k l) (stT k l)) := Lib.hid fun h => by
              have := HQB.out.2 (by rw [HSS.out]; exact h.2)
              cases this
            go_wp2_with fail
            refine bodyPostM_ret (Marks.nil S _) fun w' hw' => ⟨.tuple #[.slice none 0 0, .int .i64 5], by simp [results, Tryd.results5, go_sem], ?_⟩
            exact ⟨none, 0, 0, 5, [], rfl, by rw [← HS.out]; exact (HB.out.trans (HB4.out.mono (by rw [HS.out]; exact hz))).trans hw'.1, fun h => absurd HG0.out h, fun _ => ⟨rfl, ⟨fun _ => ⟨rfl, rfl⟩, fun _ _ => ⟨rfl, rfl⟩, fun _ h => absurd h HNO.out⟩, fun h => absurd h (by simp)⟩⟩
          | true =>
            have HMAY : Hid (mayT k l s s ∧ s = stT k l) := Lib.hid ⟨⟨HPAR.out, HQB.out.1 rfl⟩, HSS.out⟩
            have hkR4 := HKR.out.below HB4.out HKR.out.lt
            have hkP4 := HKP.out.below HB4.out HKP.out.lt
            have ho4 := HO.out.below HB4.out (Nat.le_refl _)
            have hb4 := HB.out.trans (HB4.out.mono (by rw [HS.out]; exact hz))
            have p0 := hkP4.cell 0
            have HKR4 := Lib.hid hkR4
            have HKP4 := Lib.hid hkP4
            have HO4 := Lib.hid ho4
            have HBW4 := Lib.hid hb4
            clear hkR4 hkP4 ho4 hb4 HPAR HQB HSS
            obtain ⟨L, hL⟩ : ∃ L, L = w4.heap.size := ⟨_, rfl⟩
            obtain ⟨V2, hV2⟩ : ∃ V2, V2 = (w4.alloc (.cells #[.int .i64 s] 3)).alloc (.cells #[.slice (some ⟨w4.heap.size, 0, none⟩) 1 1] 25) := ⟨_, rfl⟩
            have hRL : R + 1 < L := by rw [hL]; exact HKP4.out.lt
            have hb42 : Below L w4 V2 := by rw [hV2, hL]; exact ((Below.refl _ w4).alloc (Nat.le_refl _) _).alloc (by rw [size_alloc']; omega) _
            have hkL : Blk V2 (L + 1) 25 #[.slice (some ⟨L, 0, none⟩) 1 1] := by
              have h := Blk.new (w4.alloc (.cells #[.int .i64 s] 3)) 25 #[.slice (some ⟨w4.heap.size, 0, none⟩) 1 1]
              rw [size_alloc', ← hV2, ← hL] at h
              exact h
            have hoL : Own V2 L 3 1 icell (some ⟨L, 0, none⟩) 1 [(s : Int)] := by
              have h := (Own.lit (f := icell) (c := 1) w4 L 3 #[.int .i64 s] (fun _ => rfl) [(s : Int)] 1 rfl rfl (by unfold maxLen; omega) (by omega)).alloc (.cells #[.slice (some ⟨w4.heap.size, 0, none⟩) 1 1] 25)
              rw [← hV2, ← hL] at h
              exact h
            have HINIT : Hid (TourI w S B0 ρ R L k s l [] V2) := Lib.hid ⟨l, s, [(s : Int)], L, 1, HG.out, hsm, HMAY.out.1.1, HMAY.out.1.2, rfl, by simp; omega, HBW4.out.trans (hb42.mono (by omega)), HKR4.out.below hb42 (by omega), HKP4.out.below hb42 (by omega), hkL, HO4.out.below hb42 (by omega), hoL, by omega, Marks.nil _ _⟩
            have HL2 := Lib.hid hL
            have HV2 := Lib.hid hV2
            clear hL hV2 hb42 hkL hoL HKR4 HKP4 HO4 HBW4 HKR HKP HO HB HSZ HB4
            go_wp2_with fail
            go_step3
            go_wp2_with fail
            rw [← HV2.out, ← HL2.out]
            clear HV2 HL2 p0
            refine wpIn_wide.1 (wpIn_loop_marks (F := Fence.wide) (n := 9) [49, 50, 51, 52, 53, 54, 55]
              (fun _ ds wr => TourI w S B0 ρ R L k s l ds wr)
              (fun _ wr => l.length + 2 - lenAt wr (L + 1)) ?same HINIT.out ?round (fun g g' w h => rfl) (by decide) 74 rfl (by decide))
            case same => simp only [patch, slot, List.foldl_cons, List.foldl_nil, List.set_cons_succ, List.set_cons_zero, List.getD_cons_succ, List.getD_cons_zero]
            case round =>
              rintro g ds wr K ⟨l', a, q, gl, c9, hg', ham, hpar, hconn, hway, hlen, hb, hkR, hkP, hkL, hor, hol, hgl, hmk⟩ hK
              refine wpIn_wide.2 ?_
              simp only [patch, List.foldl_cons, List.foldl_nil, List.set_cons_succ, List.set_cons_zero]
              have hHAS := tour_has (some ⟨ρ, 0, none⟩) k k (nearL k l') wr.heap.size wr (nearL_length _ _) (by omega) hor.els
              rw [near_any hg'] at hHAS
              have HHAS := Lib.hid hHAS
              have r0 := hkR.cell 0
              have hz := hb.size
              have HK := Lib.hid hK
              have HG' := Lib.hid hg'
              have HPAR := Lib.hid hpar
              have HCONN := Lib.hid hconn
              have HWAY := Lib.hid hway
              have HLEN := Lib.hid hlen
              have HB := Lib.hid hb
              have HKR := Lib.hid hkR
              have HKP := Lib.hid hkP
              have HKL := Lib.hid hkL
              have HOR := Lib.hid hor
              have HOL := Lib.hid hol
              have HMK := Lib.hid hmk
              have hLw := hkL.lt
              have HLN := Lib.hid (lenAt_blk hkL)
              clear hHAS hK hg' hpar hconn hway hlen hb hkR hkP hkL hor hol hmk HINIT
              obtain ⟨eb, heb⟩ : ∃ eb, eb = l'.isEmpty := ⟨_, rfl⟩
              rw [← heb] at HHAS
              cases eb with
              | true =>
                have hnil : l' = [] := by simpa using heb.symm
                subst hnil
                have HQ : Hid (q = tourT k l) := Lib.hid (by
                  have h := HWAY.out
                  rw [show tourR k ([] : List Ed).length [] a = [] from rfl, List.append_nil] at h
                  unfold tourT
                  rw [← HMAY.out.2, if_pos HMAY.out.1, h])
                clear heb
                go_wp2_with fail
                refine HHAS.out.mono ?_
                clear HHAS
                rintro e w5 ⟨rfl, hb5⟩
                have HB5 := Lib.hid hb5
                have hkL5 := HKL.out.below hb5 hLw
                have l0 := hkL5.cell 0
                have HO5 := Lib.hid (HOL.out.below hb5 (Nat.le_refl _))
                have HMK5 := Lib.hid (HMK.out.below hb5 (Nat.le_refl _))
                clear hb5 hkL5 r0
                go_wp2_with fail
                refine bodyPostM_ret HMK5.out fun w' hw' => ⟨.tuple #[.slice (some ⟨gl, 0, none⟩) q.length c9, .int .i64 0], by simp [results, Tryd.results5, go_sem], ?_⟩
                refine ⟨some ⟨gl, 0, none⟩, q.length, c9, 0, q, rfl, by rw [← HS.out]; exact (HB.out.trans (HB5.out.mono (by rw [HS.out]; exact hz))).trans hw'.1, fun h => absurd HG0.out h, fun _ => ⟨rfl, ⟨fun h => absurd h (by omega), fun _ h => absurd (show mayT k l (stT k l) (stT k l) by rw [← HMAY.out.2]; exact HMAY.out.1) h, fun _ _ => ⟨rfl, HQ.out⟩⟩, (HO5.out.shut hw').els⟩⟩
              | false =>
                have hne : l' ≠ [] := fun h => by rw [h] at heb; cases heb
                obtain ⟨hj1, hj2, hj3⟩ := nxtT_spec HG'.out hne HPAR.out HCONN.out
                have hal : a < (nearL k l').length := by rw [nearL_length]; exact ham
                have HNE := Lib.hid hne
                have HJ := Lib.hid (And.intro hj1 (And.intro hj2 hj3))
                clear heb hne hj1 hj2 hj3
                go_wp2_with fail
                refine HHAS.out.mono ?_
                clear HHAS
                rintro e w5 ⟨rfl, hb5⟩
                have HB5 := Lib.hid (HB.out.trans (hb5.mono (by rw [HS.out]; exact hz)))
                have HKR5 := Lib.hid (HKR.out.below hb5 HKR.out.lt)
                have HKP5 := Lib.hid (HKP.out.below hb5 HKP.out.lt)
                have HKL5 := Lib.hid (HKL.out.below hb5 hLw)
                have HOR5 := Lib.hid (HOR.out.below hb5 (Nat.le_refl _))
                have HOL5 := Lib.hid (HOL.out.below hb5 (Nat.le_refl _))
                have HMK5 := Lib.hid (HMK.out.below hb5 (Nat.le_refl _))
                clear hb5 r0 HB HKR HKP HKL HOR HOL HMK hLw hz
                obtain ⟨b1, hb1', _, _, x0, _⟩ := HOR5.out.cell1 (f := fun x : BitVec 32 => .int .u32 (wN x)) hal
                obtain rfl : ρ = b1 := by simpa using hb1'
                rw [← lw_at _ a hal] at x0
                have r0 := HKR5.out.cell 0
                have p0 := HKP5.out.cell 0
                obtain ⟨X, hX⟩ : ∃ X, X = lw (nearL k l') a := ⟨_, rfl⟩
                rw [← hX] at x0
                have HX : Hid (∀ j, j ∈ bitsL X ↔ Adj l' a j) := Lib.hid fun j => by rw [mem_bitsL, hX, near_bit HG'.out ham]; exact Iff.rfl
                clear hb1' hX hal
                go_wp2_with fail
                refine (graph_Each X _).mono ?_
                rintro e w6 ⟨rfl, rfl⟩
                clear r0 p0 x0
                obtain ⟨Bx, hBx⟩ : ∃ Bx, Bx = w5.heap.size := ⟨_, rfl⟩
                obtain ⟨W6, hW6⟩ : ∃ W6, W6 = w5.alloc (.cells #[.int .u32 (wN X)] 39) := ⟨_, rfl⟩
                have hLB : L + 1 < Bx := by rw [hBx]; exact HKL5.out.lt
                have hρL : ρ < L := by omega
                have hglB : gl < Bx := by rw [hBx]; exact (HOL5.out.lt gl rfl).2
                have hLgl : L ≤ gl := (HOL5.out.lt gl rfl).1
                have hbW : Below Bx w5 W6 := by rw [hW6, hBx]; exact (Below.refl _ w5).alloc (Nat.le_refl _) _
                have HBX : Hid (Boxed W6 Bx 39 (.int .u32 (wN X))) := Lib.hid (by rw [hW6, hBx]; exact Boxed.new _ _ _)
                have hz6 : W6.heap.size = Bx + 1 := by rw [hW6, size_alloc', hBx]
                have HB6 := Lib.hid (HB5.out.trans (hbW.mono (by have := HB5.out.size; rw [HS.out]; rw [hBx]; exact this)))
                have HKR6 := Lib.hid (HKR5.out.below hbW (by omega))
                have HKP6 := Lib.hid (HKP5.out.below hbW (by omega))
                have HKL6 := Lib.hid (HKL5.out.below hbW (by omega))
                have HOR6 := Lib.hid (HOR5.out.below hbW (by omega))
                have HOL6 := Lib.hid (HOL5.out.below hbW (by omega))
                have HMK6 := Lib.hid (HMK5.out.below hbW (by omega))
                have HT6 := Lib.hid (HTAB.out _ HB6.out)
                clear HB5 HKR5 HKP5 HKL5 HOR5 HOL5 HMK5 hbW
                go_wp2_with fail
                rw [← hW6, ← hBx]
                clear hW6 hBx
                have hmarks : ∀ (D : Nat) (W : World), W6.heap.size ≤ D → Held [ρ, R + 1, L + 1, gl, Bx] W6 W → W.heap[D]? = some (.deferred (some [])) → Marks S ({ target := .collected D, args := #[] } :: ds) W := fun D W hD hh hdef =>
                  HMK6.out.cons hz6 (by omega) (by have := HB6.out.size; omega) (fun k hk he => (hh.block k (by omega) (fun hm => by
                    have hcell : (Obj.deferred (some [])).isCells = true := by
                      simp only [List.mem_cons, List.not_mem_nil, or_false] at hm
                      rcases hm with rfl | rfl | rfl | rfl | rfl
                      · exact HOR6.out.isCells _ he
                      · exact HKP6.out.isCells _ he
                      · exact HKL6.out.isCells _ he
                      · exact HOL6.out.isCells _ he
                      · exact (show Blk W6 _ 39 #[.int .u32 (wN X)] from HBX.out).isCells _ he
                    cases hcell)).trans he) hdef
                have HMARKS := Lib.hid hmarks
                refine wpIn_wide.1 (wpIn_bits (p := 56) (q := 10) 9 28 Bx 39 (.int .u32 (wN X)) (bitsL X) [ρ, R + 1, L + 1, gl, Bx] rfl (enters_of Tryd.func28 (by kernel_rfl) rfl)
                  (Each1_seq _ _ _ (by omega)) HBX.out HT6.out (by simp)
                  (TourB B0 ρ R L k a gl c9 l' q) (TourX B0 ρ R L k a l' q)
                  (fun s X Y row h hg hrow => by obtain ⟨h1, h2, h3, h4, h5⟩ := h; exact ⟨h1, own_kept h2 hg hrow, own_kept h3 hg hrow, blk_kept h4 hg hrow, blk_kept h5 hg hrow⟩)
                  (fun cd s X Y row h hg hrow => by obtain ⟨h0, j, g1, g2, h1, h2, h3, h4, h5, h6, h7, h8⟩ := h; exact ⟨h0, j, g1, g2, h1, h2, h3, h4, own_kept h5 hg hrow, own_kept h6 hg hrow, blk_kept h7 hg hrow, blk_kept h8 hg hrow⟩)
                  (fun s X v h => by obtain ⟨h1, h2, h3, h4, h5⟩ := h; exact ⟨h1, h2.far (p := ⟨Bx, 0, none⟩) (by simp [blkOf]; omega) v, h3.far (p := ⟨Bx, 0, none⟩) (by simp [blkOf]; omega) v, h4.far (p := ⟨Bx, 0, none⟩) (show R + 1 ≠ Bx by omega) v, h5.far (p := ⟨Bx, 0, none⟩) (show L + 1 ≠ Bx by omega) v⟩)
                  ⟨by simp, HOR6.out, HOL6.out, HKP6.out, HKL6.out⟩ ?assign ?body ?done ?stop)
                case assign =>
                  intro l'' j W K hK
                  simp only [List.setIfInBounds_toArray, List.set_cons_succ, List.set_cons_zero] at hK ⊢
                  gi_wp2_with fail
                  exact hK
                case body =>
                  intro l'' pre j W hh hi2 hpre
                  obtain ⟨hno, hor, hol, hkP, hkL⟩ := hi2
                  have hmem : j ∈ bitsL X := by
                    obtain ⟨z, hz⟩ := hpre
                    rw [← hz]; simp
                  have hadj : Adj l' a j := (HX.out j).1 hmem
                  have hjm : j < k := (adj_low HG'.out a j hadj).2
                  have hbW : Below S w W := HB6.out.trans (hh.to (B := S) (by have := HB6.out.size; omega) (by simp; omega))
                  have hkR := HKR6.out.held hh (by simp; omega)
                  have r0 := hkR.cell 0
                  have p0 := hkP.cell 0
                  have hSW := hbW.size
                  have HTU := Lib.hid (tour_turn ρ k k a j B0 (nearL k l') W (nearL_length _ _) (by omega) ham hjm hor)
                  rw [turn_near HG'.out hadj] at HTU
                  have HCELLS : Hid (∀ i ∈ [ρ, R + 1, L + 1, gl], ∀ o : Obj, W.heap[i]? = some o → o.isCells = true) := Lib.hid fun i hi o ho => by
                    simp only [List.mem_cons, List.not_mem_nil, or_false] at hi
                    rcases hi with rfl | rfl | rfl | rfl
                    · exact hor.isCells o ho
                    · exact hkP.isCells o ho
                    · exact hkL.isCells o ho
                    · exact hol.isCells o ho
                  have HH := Lib.hid hh
                  have HNO := Lib.hid hno
                  have HPRE := Lib.hid hpre
                  have HBW := Lib.hid hbW
                  have HKR := Lib.hid hkR
                  have HKP := Lib.hid hkP
                  have HKL := Lib.hid hkL
                  have HOL := Lib.hid hol
                  have HADJ := Lib.hid hadj
                  have hglW := (hol.lt gl rfl).2
                  have hρW := (hor.lt ρ rfl).2
                  clear hh hno hor hol hkP hkL hpre hmem hadj hbW hkR
                  simp only [List.setIfInBounds_toArray, List.set_cons_succ, List.set_cons_zero]
                  gi_wp2_with fail
                  refine round_call2 (HTU.out.mono ?_)
                  clear HTU
                  rintro e W7 ⟨rfl, hh7, hor7⟩
                  have hz7 := hh7.size
                  have hkR7 := HKR.out.held hh7 (by simp; omega)
                  have hkP7 := HKP.out.held hh7 (by simp; omega)
                  have hkL7 := HKL.out.held hh7 (by simp; omega)
                  have hol7 := HOL.out.kept (held_grows hh7) (.inr (by simp [blkOf]; omega))
                  have hbW7 := HBW.out.trans (hh7.to (B := S) (by rw [HS.out]; exact hSW) (by simp; omega))
                  obtain ⟨qb, hqb⟩ : ∃ qb : Bool, qb = true ↔ conn k (cutE l' a j) j := ⟨open Classical in decide (conn k (cutE l' a j) j), by simp⟩
                  have HONE := Lib.hid (tour_one k (some ⟨ρ, 0, none⟩) k j (cutE l' a j) qb W7 (cut_good HG'.out a j) hjm hqb hor7.els (HTAB.out _ hbW7) (by omega))
                  have r7 := hkR7.cell 0
                  have HH7 := Lib.hid hh7
                  have HKR7 := Lib.hid hkR7
                  have HKP7 := Lib.hid hkP7
                  have HKL7 := Lib.hid hkL7
                  have HOL7 := Lib.hid hol7
                  have HOR7 := Lib.hid hor7
                  have HQB := Lib.hid hqb
                  clear hh7 hkR7 hkP7 hkL7 hol7 hor7 hbW7 hqb r0 p0
                  gi_wp2_with fail
                  refine round_call2 (HONE.out.mono ?_)
                  clear HONE
                  rintro e W8 ⟨rfl, hb8⟩
                  have hz8 := hb8.size
                  have hkR8 := HKR7.out.below hb8 HKR7.out.lt
                  have hkP8 := HKP7.out.below hb8 HKP7.out.lt
                  have hkL8 := HKL7.out.below hb8 HKL7.out.lt
                  have hor8 := HOR7.out.below hb8 (Nat.le_refl _)
                  have hol8 := HOL7.out.below hb8 (Nat.le_refl _)
                  have r8 := hkR8.cell 0
                  have p8 := hkP8.cell 0
                  have f8 := hkP8.frozen 0
                  have HH8 : Hid (Held [ρ, R + 1, L + 1, gl] W W8) := Lib.hid ((HH7.out.mono (fun i hi _ => by simp at hi ⊢; omega)).below hb8 (Nat.le_refl _))
                  have HKP8 := Lib.hid hkP8
                  have HKL8 := Lib.hid hkL8
                  have HOR8 := Lib.hid hor8
                  have HOL8 := Lib.hid hol8
                  clear hb8 hkR8 hkP8 hkL8 hor8 hol8 r7 HKR7 HKP7 HKL7 HOR7 HOL7
                  cases qb with
                  | true =>
                    have hokj : okT k l' a j = true := okT_iff.2 ⟨HADJ.out, HQB.out.1 rfl⟩
                    have HOK := Lib.hid hokj
                    have HLEAST : Hid (∀ i, i < j → okT k l' a i = false) := Lib.hid fun i hij => by
                      cases hb : okT k l' a i with
                      | false => rfl
                      | true =>
                        have hadj' := (okT_iff.1 hb).1
                        have hbit : X.getLsbD i = true := mem_bitsL.1 ((HX.out i).2 hadj')
                        rw [HNO.out i (bits_front HPRE.out hbit hij)] at hb
                        cases hb
                    clear hokj
                    have l8 := HKL8.out.cell 0
                    have HKP9 := Lib.hid (HKP8.out.put 0 (.int .i64 j))
                    have HKL9 := Lib.hid (HKL8.out.far (p := ⟨R + 1, 0, none⟩) (show L + 1 ≠ R + 1 by omega) (.int .i64 j))
                    have HOR9 := Lib.hid (HOR8.out.far (p := ⟨R + 1, 0, none⟩) hρP (.int .i64 j))
                    have HOL9 := Lib.hid (HOL8.out.far (p := ⟨R + 1, 0, none⟩) (by simp [blkOf]; omega) (.int .i64 j))
                    have HH9 := Lib.hid (HH8.out.setCell (p := ⟨R + 1, 0, none⟩) (by simp) (.int .i64 j))
                    have hq45 : q.length ≤ 46 := by have := HLEN.out; have := HG.out.m45; omega
                    have hgne : blkOf (some (⟨gl, 0, none⟩ : Addr)) ≠ some (L + 1) := by simp [blkOf]; omega
                    have hgnP : blkOf (some (⟨gl, 0, none⟩ : Addr)) ≠ some (R + 1) := by simp [blkOf]; omega
                    have hgnρ : blkOf (some (⟨gl, 0, none⟩ : Addr)) ≠ some ρ := by simp [blkOf]; omega
                    have hgN : gl ≠ W8.heap.size := by have := HOL8.out.lt gl rfl; omega
                    gi_wp2_with (gi_at_builtin; go_must (refine wpListIn_push rfl _ _ _ rfl L 1 3 (.int .i64 0) 8 Tryd.underlying25 (by kernel_rfl) rfl (by omega) icell _ #[.int .i64 j] (some ⟨gl, 0, none⟩) q.length c9 q rfl rfl HOL9.out 1 [(j : Int)] rfl rfl W8.heap.size rfl (by simp [World.setCell]) (by simp [Value.oneCell']) (by unfold maxLen; omega) (by omega) (by omega) ?_; intro A6 c6 w6 hown6 hgrow6 hloc6; have hkL6 := (HKL9.out.alloc (.cells #[.int .i64 j] 3)).grown hgrow6 (fun h => hgne h.symm); have l6 := hkL6.cell 0; have f6 := hkL6.frozen 0))
                    obtain ⟨gl', rfl, hgl1, hgl2⟩ := hown6.form_ (by simp)
                    have hLW8 := HKL8.out.lt
                    have hgl' : gl' ≠ L + 1 := fun e => by
                      rcases hloc6 with h | h
                      · have : gl' = gl := by simpa [blkOf] using h
                        omega
                      · have : gl' = W8.heap.size + 1 := by simpa [blkOf] using h
                        omega
                    have hkP6 := (HKP9.out.alloc (.cells #[.int .i64 j] 3)).grown hgrow6 (fun h => hgnP h.symm)
                    have hor6 := (HOR9.out.alloc (.cells #[.int .i64 j] 3)).kept hgrow6 (.inr (fun h => hgnρ h.symm))
                    have hh6 : Held [ρ, R + 1, L + 1, gl] W w6 := (HH9.out.alloc (.cells #[.int .i64 j] 3)).then (held_grown hgrow6) (fun i hi _ => by simp at hi ⊢; omega)
                    have hall := hh6.setCell (p := ⟨L + 1, 0, none⟩) (by simp) (.slice (some ⟨gl', 0, none⟩) (q.length + 1) c6)
                    refine ⟨KeepsFrom.held hall HCELLS.out, HH.out.then hall (fun i hi _ => by simp at hi ⊢; omega), rfl, j, gl', c6, hjm, HOK.out, HLEAST.out, hgl', hor6.far (p := ⟨L + 1, 0, none⟩) (by simp [blkOf]; omega) _, hown6.far (p := ⟨L + 1, 0, none⟩) (by simp [blkOf]; omega) _, ?_, hkL6.put 0 _⟩
                    exact hkP6.far (p := ⟨L + 1, 0, none⟩) (show R + 1 ≠ L + 1 by omega) _
                  | false =>
                    have hokj : okT k l' a j = false := okT_not.2 fun h => by
                      have := HQB.out.2 h.2
                      cases this
                    have HOK := Lib.hid hokj
                    have HTU := Lib.hid (tour_turn ρ k k a j B0 (nearL k (cutE l' a j)) W8 (nearL_length _ _) (by omega) ham hjm HOR8.out)
                    rw [← turn_near HG'.out HADJ.out, turn_back (by rw [nearL_length]; exact ham) (by rw [nearL_length]; exact hjm) (adj_ne HG'.out HADJ.out) (by rw [nearL_length]; omega)] at HTU
                    clear hokj
                    gi_wp2_with fail
                    refine round_call2 (HTU.out.mono ?_)
                    clear HTU
                    rintro e W9 ⟨rfl, hh9, hor9⟩
                    have HH9 : Hid (Held [ρ, R + 1, L + 1, gl] W W9) := Lib.hid (HH8.out.then hh9 (fun i hi _ => by simp at hi ⊢; omega))
                    have HKP9 := Lib.hid (HKP8.out.held hh9 (by simp; omega))
                    have HKL9 := Lib.hid (HKL8.out.held hh9 (by simp; omega))
                    have HOL9 := Lib.hid (HOL8.out.kept (held_grows hh9) (.inr (by simp [blkOf]; omega)))
                    have HOR9 := Lib.hid hor9
                    clear hh9 hor9
                    gi_wp2_with fail
                    refine ⟨KeepsFrom.held HH9.out HCELLS.out, kpe_held HH9.out (by simp; omega) (by simp; omega), HH.out.then HH9.out (fun i hi _ => by simp at hi ⊢; omega), fun y hy => ?_, HOR9.out, HOL9.out, HKP9.out, HKL9.out⟩
                    rcases List.mem_append.1 hy with h | h
                    · exact HNO.out y h
                    · rw [List.mem_singleton.1 h]; exact HOK.out
                case done =>
                  intro D W hD hh hi2 hdef
                  exfalso
                  have h1 := (HX.out (nxtT k l' a)).2 (okT_iff.1 HJ.out.2.1).1
                  have h2 := hi2.1 _ h1
                  rw [HJ.out.2.1] at h2
                  cases h2
                case stop =>
                  rintro D cd pre W hD hpre hh ⟨rfl, j, gl', c', hjm, hok, hleast, hgl', hor', hol', hkP', hkL'⟩ hdef
                  have hnx : nxtT k l' a = j := nxtT_eq hjm hok hleast
                  have hadj := (okT_iff.1 hok).1
                  have hcl := cut_len HG'.out hadj
                  have hbW : Below S w W := HB6.out.trans (hh.to (B := S) (by have := HB6.out.size; omega) (by simp; omega))
                  have HNEW : Hid (TourI w S B0 ρ R L k s l ({ target := .collected D, args := #[] } :: ds) W) := Lib.hid ⟨cutE l' a j, j, q ++ [(j : Int)], gl', c', cut_good HG'.out a j, hjm, par_cut HG'.out hadj HPAR.out, (okT_iff.1 hok).2, by
                    rw [← HWAY.out, ← hcl, tourR, hnx, List.append_assoc]; rfl, by rw [List.length_append]; simp; have := HLEN.out; omega, hbW, HKR6.out.held hh (by simp; omega), hkP', by rw [List.length_append]; exact hkL', hor', hol', hgl', HMARKS.out D W hD hh hdef⟩
                  have HM : Hid (l.length + 2 - lenAt W (L + 1) < l.length + 2 - lenAt wr (L + 1)) := Lib.hid (by
                    rw [lenAt_blk hkL', HLN.out]
                    have h1 := HLEN.out
                    have h2 : 0 < l'.length := List.length_pos_iff.2 HNE.out
                    omega)
                  clear hh hdef hor' hol' hkP' hkL' hok hleast hnx hadj hcl hbW hpre
                  gi_wp2_with fail
                  go_wp2_with fail
                  refine HK.out _ _ _ ?_ HNEW.out HM.out
                  simp only [patch, slot, List.foldl_cons, List.foldl_nil, List.set_cons_succ, List.set_cons_zero, List.getD_cons_succ, List.getD_cons_zero]
  · have h1 : (graphCheck N l != 0) = true := by simpa using h0
    obtain ⟨x, hx⟩ : ∃ x, x = graphCheck N l := ⟨_, rfl⟩
    rw [← hx] at h0 h1 ⊢
    have H0 := Lib.hid h0
    have HX := Lib.hid hx
    clear h0 hx
    go_wp2_with fail
    refine bodyPostM_ret (Marks.nil S v1) fun w' hw' => ⟨.tuple #[.slice none 0 0, .int .i64 x], by simp [results, Tryd.results5, go_sem], ?_⟩
    exact ⟨none, 0, 0, x, [], rfl, by rw [← HS.out]; exact HBV.out.trans hw'.1, fun _ => ⟨HX.out, rfl⟩, fun h => absurd (HX.out.trans h) H0.out⟩
end Go.Proofs.YtjkfogkpacmdlaaDoor
