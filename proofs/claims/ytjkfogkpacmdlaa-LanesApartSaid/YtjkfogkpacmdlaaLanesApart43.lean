/- Ways apart: the program. Conditions: the edges read as a list. -/
import Derived.Test.YtjkfogkpacmdlaaLanesApart24
import Derived.Test.YtjkfogkpacmdlaaLanesApart25
import Derived.Test.YtjkfogkpacmdlaaLanesApart27
import Derived.Test.YtjkfogkpacmdlaaLanesApart36
import Derived.Test.YtjkfogkpacmdlaaLanesApart42
import Derived.Test.YtjkfogkpacmdlaaLanesApart8
import Derived.BigQuiet
namespace Go.Proofs.Ytjkfogkpacmdlaa
open Go.RowKit Go.Shelf

/-- Between two ways. -/
def ApI (N : Nat) (l : List Ed) (a b : Nat) (nx : Int → List Int) (T L : Nat) (w : World) (s132 s19 : Value) (wr : World) : Prop :=
  ∃ (k cap : Nat) (A : Option Addr) (ways : List (Sls Int)) (S : List Int), k ≤ L ∧ s132 = .int .i64 k ∧ s19 = .slice A k cap ∧ Below T w wr ∧ OutG wr T A cap ways ∧ ways.length = k ∧ MetI N a b nx S k ∧ WaysOk N l a b (ways.map (·.l)) S
/-- On a way. -/
def ApJ (N : Nat) (l : List Ed) (a b : Nat) (nx : Int → List Int) (T k cap : Nat) (A : Option Addr) (ways : List (Sls Int)) (S : List Int) (w : World) (s21 s22 : Value) (wr : World) : Prop :=
  ∃ (j : Int) (A22 : Option Addr) (n22 cap22 : Nat) (q : List Int), s21 = .int .i64 j ∧ s22 = .slice A22 n22 cap22 ∧ n22 = q.length + 1 ∧ Below T w wr ∧ OutG wr T A cap ways ∧ Own wr T 3 1 icell A22 cap22 ((a : Int) :: q) ∧ (∀ s ∈ ways, ∀ g, blkOf s.A = some g → blkOf A22 ≠ some g) ∧ ChI l ((a : Int) :: q ++ [j]) ∧ MetI N a b nx (S ++ q) (k + 1) ∧ (j ≠ b → MetI N a b nx (S ++ q ++ [j]) (k + 1)) ∧ 0 ≤ j ∧ j < N
theorem ChI.push {l : List Ed} {a j x : Int} {q : List Int} (h : ChI l (a :: q ++ [j])) (hx : Adj l j.toNat x.toNat) : ChI l (a :: (q ++ [j]) ++ [x]) := by
  have := ChI.snoc (p := a :: q) h hx
  simpa using this
def lenV : Value → Nat
  | .slice _ n _ => n
  | _ => 0
theorem lane_arc (P lo N m cap : Nat) (A : Option Addr) (l : List Arc) (f t : Int) (w : World) (hl : l.length = m) (hm : m ≤ 1000) (hlo : lo ≤ w.heap.size) (hk : Blk w P 39 #[.int .i64 N, .slice A m cap]) (ho : Own w lo 45 4 Arc.cells A cap l) :
    Calls Try.prog 23 #[.int .i64 f, .int .i64 t, .pointer (some ⟨P, 0, none⟩)] w fun e w' => (∃ v, e = .returned v) ∧ ∃ A' cap', Blk w' P 39 #[.int .i64 N, .slice A' (m + 1) cap'] ∧ Own w' lo 45 4 Arc.cells A' cap' (l ++ [⟨f, t, 1, 0⟩]) ∧ ArcKept P lo w w' := by
  have c1 := hk.cell 1
  have HK := Lib.hid hk
  have HO := Lib.hid ho
  have HL := Lib.hid hl
  clear hk ho hl
  go_enter Try.func23, Try.ntmps23
  go_wp2_with (at_builtin; go_loud (
    refine wpList_push rfl _ _ _ rfl lo 4 45 (.agg #[.int .i64 0, .int .i64 0, .int .i64 0, .int .i64 0]) 32 Try.underlying37 (by kernel_rfl) rfl (by omega) Arc.cells w #[.int .i64 f, .int .i64 t, .int .i64 1, .int .i64 0] A m cap l HL.out rfl HO.out 1 [⟨f, t, 1, 0⟩] rfl rfl _ rfl rfl (by simp [Value.oneCell']) (by unfold maxLen; omega) (by omega) hlo ?_
    intro A7 cap7 w7 hown7 hgrow7 hloc7
    have hk7 := (HK.out.alloc (.cells #[.int .i64 f, .int .i64 t, .int .i64 1, .int .i64 0] 45)).past hgrow7 (HO.out.alloc _) (by decide)
    have f7 := hk7.frozen 1
    have d7 := hk7.cell 1
    have HK7 := Lib.hid hk7
    have HO7 := Lib.hid hown7
    have HG7 := Lib.hid hgrow7
    clear hown7 hgrow7 hloc7 hk7))
  go_end0
  have hb1 : ∀ B, B ≤ P → B ≤ lo → Below B w w7 := fun B h1 h2 => ((Below.refl B w).alloc (by omega) (.cells #[.int .i64 f, .int .i64 t, .int .i64 1, .int .i64 0] 45)).grown HG7.out (by rw [size_alloc']; omega) (fun g e => by have := (HO.out.lt g e).1; omega)
  refine ⟨⟨_, rfl⟩, A7, cap7, by have := HK7.out.put 1 (.slice A7 (m + 1) cap7); exact this, ?_, ⟨fun q ty cs hq hne ht => ?_, fun B h1 h2 => (hb1 B h1 h2).setCell (p := ⟨P, 1, none⟩) h1 _⟩⟩
  · refine HO7.out.far (p := ⟨P, 1, none⟩) (fun e => ?_) _
    exact own_far_blk HO7.out HK7.out (by decide) e
  · exact ((hq.alloc (.cells #[.int .i64 f, .int .i64 t, .int .i64 1, .int .i64 0] 45)).past HG7.out (HO.out.alloc _) (fun e => ht e.symm)).far (p := ⟨P, 1, none⟩) hne _

theorem lanes_Apart_bad (N a b : Int) (A : Option Addr) (n c : Nat) (l : List Ed) (w : World) (h0 : waysCheck N l a b ≠ 0) (hl : l.length = n) (hn : n ≤ maxLen) (hr : Els w w.heap.size 3 Ed.cells A l) :
    Calls Try.prog 6 #[.agg #[.int .i64 N, .slice A n c], .int .i64 a, .int .i64 b] w fun e w' => e = .returned (.tuple #[.slice none 0 0, .int .i64 (waysCheck N l a b)]) ∧ Below w.heap.size w w' := by
  have hb0 := (Below.refl w.heap.size w).alloc (Nat.le_refl _) (.cells #[.int .i64 N, .slice A n c] 24)
  have hB0 := Blk.new w 24 #[.int .i64 N, .slice A n c]
  have HW := Lib.hid (lanes_wrong N a b A n c l (w.alloc (.cells #[.int .i64 N, .slice A n c] 24)) hl hn ((hr.alloc (Nat.le_refl _) _).more (by rw [size_alloc']; omega)))
  have HB0 := Lib.hid hb0
  have c0 := hB0.cell 0
  have c1 := hB0.cell 1
  have h1 : (waysCheck N l a b != 0) = true := by simpa using h0
  obtain ⟨x, hx⟩ : ∃ x, x = waysCheck N l a b := ⟨_, rfl⟩
  rw [← hx] at h1 HW ⊢
  clear hr hb0 hB0 hl h0 hx
  go_enter Try.func6, Try.ntmps6
  go_wp2_with fail
  refine HW.out.mono ?_
  clear HW
  rintro e v1 ⟨rfl, hb1⟩
  have HB1 := Lib.hid (HB0.out.trans (hb1.mono (by rw [size_alloc']; omega)))
  clear c0 c1 hb1
  go_wp2_with fail
  go_ret2
  exact ⟨rfl, HB1.out⟩

/-- While the net is made. -/
def MenW (P : Nat) (w : World) (l : List Arc) (N : Nat) (wr : World) : Prop :=
  Below P w wr ∧ ∃ A cap, Blk wr P 39 #[.int .i64 N, .slice A l.length cap] ∧ Own wr (P + 1) 45 4 Arc.cells A cap l
theorem outsA_snoc (l : List Arc) (gs : List Int) (k : Nat) (j : Int) (hk : k < l.length) (hg : gs.length = l.length) : outsA (l.take (k + 1)) (gs.take (k + 1)) j = outsA (l.take k) (gs.take k) j ++ if (l.getD k z4).f = j ∧ 0 < gs.getD k 0 then [(l.getD k z4).t] else [] := by
  induction l generalizing gs k with
  | nil => simp at hk
  | cons a l ih =>
    cases gs with
    | nil => simp at hg
    | cons g gs =>
      cases k with
      | zero =>
        simp only [List.take_succ_cons, List.take_zero, outsA, List.getD_cons_zero]
        split <;> rfl
      | succ k =>
        have := ih gs k (by simpa using hk) (by simpa using hg)
        simp only [List.take_succ_cons, List.getD_cons_succ, outsA]
        rw [this]
        split <;> rfl
/-- The net so far. -/
def lnP (N : Nat) (l : List Ed) (j k : Nat) : List Arc := (List.range j).map (inA N) ++ (l.take k).flatMap (edA N)
theorem lnP_all (N : Nat) (l : List Ed) : lnP N l N l.length = lnA N l := by unfold lnP lnA; rw [List.take_length]
theorem lnP_length (N : Nat) (l : List Ed) (j k : Nat) (h : k ≤ l.length) : (lnP N l j k).length = j + 2 * k := by
  unfold lnP
  rw [List.length_append, List.length_map, List.length_range, edsA_length, List.length_take, Nat.min_eq_left h]
theorem lnP_succ (N : Nat) (l : List Ed) (j k : Nat) (h : k < l.length) : lnP N l j (k + 1) = lnP N l j k ++ [⟨(N : Int) + l[k].a, l[k].b, 1, 0⟩] ++ [⟨(N : Int) + l[k].b, l[k].a, 1, 0⟩] := by
  unfold lnP
  rw [List.take_succ_eq_append_getElem h, List.flatMap_append, List.append_assoc, List.append_assoc]
  rfl
theorem outsA_len (j : Int) : ∀ (l : List Arc) (gs : List Int), (outsA l gs j).length ≤ l.length
  | [], [] => Nat.le_refl _
  | [], g :: gs => Nat.le_refl _
  | a :: l, [] => Nat.zero_le _
  | a :: l, g :: gs => by
    have := outsA_len j l gs
    unfold outsA
    split <;> simp <;> omega
/-- While the next ones are told. -/
def NextW (T gt N : Nat) (w : World) (L : List Arc) (gs : List Int) (k : Nat) (wr : World) : Prop :=
  Below T w wr ∧ ∃ rows, TabG wr T gt N rows ∧ ∀ j, j < N → (rwG rows j).l = outsA (L.take k) (gs.take k) ((N : Int) + j)

set_option maxRecDepth 100000 in
set_option maxHeartbeats 1000000 in
theorem lanes_Apart (N a b : Nat) (A : Option Addr) (n c : Nat) (l : List Ed) (w : World) (h0 : waysCheck N l a b = 0) (hg : GoodG N l) (haN : a < N) (hbN : b < N) (hab : a ≠ b) (hadj : adj l a b = false) (hl : l.length = n) (hr : Els w w.heap.size 3 Ed.cells A l) :
    Calls Try.prog 6 #[.agg #[.int .i64 N, .slice A n c], .int .i64 a, .int .i64 b] w fun e w' => ∃ (A' : Option Addr) (cap B : Nat) (ways : List (Sls Int)) (S gs : List Int) (v : Int), e = .returned (.tuple #[.slice A' ways.length cap, .int .i64 0]) ∧ Below w.heap.size w w' ∧ OutG w' B A' cap ways ∧ WaysOk N l a b (ways.map (·.l)) S ∧ S.Nodup ∧ (∀ x ∈ S, 0 ≤ x ∧ x < N ∧ x ≠ a ∧ x ≠ b) ∧ (ways.length : Int) = v ∧ FlowV (2 * N) (lnA N l) gs (N + a) b v ∧ ∃ p : Int → Bool, p ((N + a : Nat) : Int) = true ∧ p b = false ∧ capP p (lnA N l) = v := by
  have hN10 := hg.n10
  have hn45 : n ≤ 45 := by rw [← hl]; exact hg.m45
  obtain ⟨S, hS⟩ : ∃ S, S = w.heap.size := ⟨_, rfl⟩
  have hb0 := (Below.refl w.heap.size w).alloc (Nat.le_refl _) (.cells #[.int .i64 N, .slice A n c] 24)
  have hB0 := Blk.new w 24 #[.int .i64 N, .slice A n c]
  have hw := lanes_wrong N a b A n c l (w.alloc (.cells #[.int .i64 N, .slice A n c] 24)) hl (by unfold maxLen; omega) ((hr.alloc (Nat.le_refl _) _).more (by rw [size_alloc']; omega))
  rw [h0] at hw
  have HW := Lib.hid hw
  have c0 := hB0.cell 0
  have c1 := hB0.cell 1
  rw [← hS] at hb0 hB0 hr
  have HB0 := Lib.hid hb0
  have HK0 := Lib.hid hB0
  have HS := Lib.hid hS
  have HR := Lib.hid hr
  have HL := Lib.hid hl
  have HG := Lib.hid hg
  clear hw hb0 hB0 hS hr hl hg h0
  go_enter Try.func6, Try.ntmps6
  go_wp2_with fail
  refine HW.out.mono ?_
  clear HW
  rintro e v1 ⟨rfl, hb1⟩
  rw [size_alloc', ← HS.out] at hb1
  rw [← HS.out]
  have hk1 := HK0.out.below hb1 (by omega)
  have hb1' := HB0.out.trans (hb1.mono (by omega))
  obtain ⟨P, hP⟩ : ∃ P, P = v1.heap.size := ⟨_, rfl⟩
  have hSP : S < P := by rw [hP]; exact hk1.lt
  obtain ⟨M, hM⟩ : ∃ M, M = 2 * N := ⟨_, rfl⟩
  have hkP := Blk.new v1 39 #[.int .i64 (M : Int), .slice none 0 0]
  have hbP := (Below.refl P v1).alloc (by omega) (.cells #[.int .i64 (M : Int), .slice none 0 0] 39)
  have hkG := hk1.alloc (.cells #[.int .i64 (M : Int), .slice none 0 0] 39)
  rw [← hP] at hkP
  have e2 : IntKind.i64.wrap (2 * (N : Int)) = (M : Int) := by rw [IntWalk.i64_in _ (by omega)]; omega
  clear c0 c1
  have c0 := hk1.cell 0
  have c1 := hk1.cell 1
  have d0 := hkG.cell 0
  have d1 := hkG.cell 1
  have HB1 := Lib.hid hb1'
  have HKP := Lib.hid hkP
  have HBP := Lib.hid hbP
  have HP := Lib.hid hP
  have HM := Lib.hid hM
  have HK1 := Lib.hid hk1
  have HKG := Lib.hid hkG
  clear hb1 hb1' hk1 hkP hbP hP hkG hM HB0 HK0
  go_wp2_with fail
  rw [← HP.out]
  have hin2 : ∀ k, lnP N l k 0 = (List.range k).map (inA N) := fun k => by unfold lnP; simp
  go_loopw [37, 11] (fun s37 s11 wr => ∃ j : Nat, j ≤ N ∧ s37 = .int .i64 j ∧ MenW P v1 (lnP N l j 0) M wr) (fun s37 _ _ => N - (intOf s37).toNat)
  case atStart => exact ⟨0, Nat.zero_le _, rfl, HBP.out, none, 0, HKP.out, Own.nil _ _ _ (fun _ => rfl)⟩
  case round =>
    clear HKP HBP HKG c0 c1 d0 d1
    rename World => wr
    obtain ⟨j, hj, rfl, hb, A1, cap1, hk, ho⟩ := hrel
    have hkG := HK1.out.below hb hSP
    have c0 := hkG.cell 0
    have c1 := hkG.cell 1
    by_cases hjN : j < N
    · have hll : (lnP N l j 0).length ≤ 1000 := by rw [hin2, List.length_map, List.length_range]; omega
      have hnx : lnP N l (j + 1) 0 = lnP N l j 0 ++ [⟨(j : Int), (N : Int) + j, 1, 0⟩] := by
        rw [hin2, hin2, List.range_succ, List.map_append]
        rfl
      have HARC := Lib.hid (lane_arc P (P + 1) M _ cap1 A1 _ (j : Int) ((N : Int) + j) wr rfl hll (by have := hk.lt; omega) hk ho)
      have e5 : IntKind.i64.wrap ((N : Int) + j) = (N : Int) + j := IntWalk.i64_in _ (by omega)
      have HB := Lib.hid hb
      have HNX := Lib.hid hnx
      clear hb hk ho hkG hll hnx
      go_wp2_with fail
      refine HARC.out.mono ?_
      clear HARC
      rintro e w2 ⟨⟨v2, rfl⟩, A2, cap2, hk2, ho2, hkp2⟩
      have HN2 : Hid (MenW P v1 (lnP N l (j + 1) 0) M w2) := Lib.hid (by
        rw [HNX.out]
        refine ⟨HB.out.trans (hkp2.bel P (Nat.le_refl _) (Nat.le_succ _)), A2, cap2, ?_, ho2⟩
        rw [List.length_append]
        exact hk2)
      clear hk2 ho2 hkp2
      go_wp2_with fail
      go_roundw
      case rel => exact ⟨j + 1, by omega, by go_num, HN2.out⟩
      case measure => simp [intOf]; omega
    · obtain rfl : j = N := by omega
      have HN2 : Hid (MenW P v1 (lnP j l j 0) M wr) := Lib.hid ⟨hb, A1, cap1, hk, ho⟩
      clear hb hk ho hkG
      go_wp2_with fail
      go_loopw [51, 13] (fun s51 s13 wr => ∃ k : Nat, k ≤ n ∧ s51 = .int .i64 k ∧ MenW P v1 (lnP j l j k) M wr) (fun s51 _ _ => n - (intOf s51).toNat)
      case atStart => exact ⟨0, Nat.zero_le _, rfl, HN2.out⟩
      case round =>
        clear HN2 c0 c1
        rename World => wr
        obtain ⟨k, hk0, rfl, hb, A1, cap1, hk, ho⟩ := hrel
        have hkG := HK1.out.below hb hSP
        have hbS := HB1.out.trans (hb.mono (by omega))
        by_cases hkn : k < n
        · have hkl : k < l.length := by rw [HL.out]; exact hkn
          obtain ⟨be, oe, rfl, hbe, g0, g1, g2⟩ := (HR.out.below hbS).at3 (f := fun e : Ed => .int .i64 e.a) (g := fun e : Ed => .int .i64 e.b) (p := fun e : Ed => .int .i64 e.w) hkl
          have hE := HG.out.ed _ (List.getElem_mem hkl)
          have q0 := hE.a0
          have q1 := hE.a1
          have q2 := hE.b0
          have q3 := hE.b1
          have hnx := lnP_succ j l j k hkl
          have hll : (lnP j l j k).length ≤ 100 := by rw [lnP_length j l j k (by omega)]; omega
          obtain ⟨⟨ea, eb, ew⟩, hed⟩ : ∃ e : Ed, e = l[k] := ⟨_, rfl⟩
          rw [← hed] at g0 g1 g2 q0 q1 q2 q3 hnx
          simp only at g0 g1 g2 q0 q1 q2 q3 hnx
          obtain ⟨V, hV⟩ : ∃ V, V = wr.alloc (.cells #[.int .i64 ea, .int .i64 eb, .int .i64 ew] 61) := ⟨_, rfl⟩
          obtain ⟨K, hK⟩ : ∃ K, K = wr.heap.size := ⟨_, rfl⟩
          have hPK : P < K := by rw [hK]; exact hk.lt
          have hbV : Below P v1 V := by rw [hV]; exact hb.alloc (by omega) _
          have hkV : Blk V P 39 #[.int .i64 M, .slice A1 (lnP j l j k).length cap1] := by rw [hV]; exact hk.alloc _
          have hoV : Own V (P + 1) 45 4 Arc.cells A1 cap1 (lnP j l j k) := by rw [hV]; exact ho.alloc _
          have heV : Blk V K 61 #[.int .i64 ea, .int .i64 eb, .int .i64 ew] := by rw [hV, hK]; exact Blk.new wr _ _
          have hgV : Blk V S 24 #[.int .i64 (j : Int), .slice (some ⟨be, oe, none⟩) n c] := by rw [hV]; exact hkG.alloc _
          have HARC := Lib.hid (lane_arc P (P + 1) M _ cap1 A1 _ ((j : Int) + ea) eb V rfl (by omega) (by have := hkV.lt; omega) hkV hoV)
          have x0 := heV.cell 0
          have x1 := heV.cell 1
          have y0 := hgV.cell 0
          rw [hV, hK] at x0 x1
          rw [hV] at y0
          have HV := Lib.hid hV
          have HK := Lib.hid hK
          have HNX := Lib.hid hnx
          have HBV := Lib.hid hbV
          have HEV := Lib.hid heV
          have HGV := Lib.hid hgV
          have e5 : IntKind.i64.wrap ((j : Int) + ea) = (j : Int) + ea := IntWalk.i64_in _ (by omega)
          have e6 : IntKind.i64.wrap ((j : Int) + eb) = (j : Int) + eb := IntWalk.i64_in _ (by omega)
          obtain ⟨ll, hll2⟩ : ∃ ll, ll = lnP j l j k := ⟨_, rfl⟩
          rw [← hll2] at hll HARC HNX
          clear hb hk ho hkG hbS hed hE hV hK hbV hkV hoV heV hgV hnx hll2
          go_wp2_with fail
          rw [← HV.out, ← HK.out]
          refine HARC.out.mono ?_
          clear HARC
          rintro e w2 ⟨⟨v2, rfl⟩, A2, cap2, hk2, ho2, hkp2⟩
          have hbk2 := hkp2.bel P (Nat.le_refl _) (Nat.le_succ _)
          have hg2 := HGV.out.below hbk2 hSP
          have he2 := hkp2.blk K _ _ HEV.out (by omega) (by decide)
          have z0 := he2.cell 0
          have z1 := he2.cell 1
          have z2 := hg2.cell 0
          have HARC := Lib.hid (lane_arc P (P + 1) M _ cap2 A2 _ ((j : Int) + eb) ea w2 (List.length_append ..) (by simp; omega) (by have := hk2.lt; omega) hk2 ho2)
          have HB2 := Lib.hid (HBV.out.trans hbk2)
          clear hk2 ho2 hkp2 hbk2 hg2 he2 x0 x1 y0
          go_wp2_with fail
          refine HARC.out.mono ?_
          clear HARC
          rintro e w3 ⟨⟨v3, rfl⟩, A3, cap3, hk3, ho3, hkp3⟩
          have HN3 : Hid (MenW P v1 (lnP j l j (k + 1)) M w3) := Lib.hid (by
            rw [HNX.out]
            refine ⟨HB2.out.trans (hkp3.bel P (Nat.le_refl _) (Nat.le_succ _)), A3, cap3, ?_, ho3⟩
            rw [List.length_append, List.length_append]
            exact hk3)
          clear hk3 ho3 hkp3
          go_wp2_with fail
          go_roundw
          case rel => exact ⟨k + 1, by omega, by go_num, HN3.out⟩
          case measure => simp [intOf]; omega
        · obtain rfl : k = n := by omega
          have hall : lnP j l j k = lnA j l := by rw [← HL.out]; exact lnP_all j l
          rw [hall] at hk ho
          have hLl : (lnA j l).length = j + 2 * k := by rw [lnA_length, HL.out]
          have hMM : ∀ x ∈ lnA j l, 0 ≤ x.m ∧ x.m ≤ 1048576 := fun x hx => by rw [lnA_m x hx]; exact ⟨by omega, by omega⟩
          have hin : InN M (lnA j l) := by rw [HM.out]; exact lnA_inN HG.out
          obtain ⟨m, hm⟩ : ∃ m, m = (lnA j l).length := ⟨_, rfl⟩
          rw [← hm] at hk hLl
          have hm100 : m ≤ 100 := by omega
          have HMJ := Lib.hid hLl
          clear hLl
          have c0 := hkG.cell 0
          have c1 := hkG.cell 1
          have k0 := hk.cell 0
          have k1 := hk.cell 1
          have hfill := flow_FillZ M m cap1 A1 (lnA j l) (j + a) b wr hm.symm (by omega) (by have := HM.out; omega) hin (by have := HM.out; omega) (by have := HM.out; omega) (by omega) hMM ho.els
          have ecast : ((j + a : Nat) : Int) = (j : Int) + a := by omega
          rw [ecast] at hfill
          have HFILL := Lib.hid hfill
          have e5 : IntKind.i64.wrap ((j : Int) + a) = (j : Int) + a := IntWalk.i64_in _ (by omega)
          have HB := Lib.hid hb
          have HK := Lib.hid hk
          have HO := Lib.hid ho
          have HMm := Lib.hid hm
          have HKG := Lib.hid hkG
          have hPw : P < wr.heap.size := hk.lt
          clear hb hk ho hall hMM hin hm hfill hkG hbS ecast
          go_wp2_with fail
          refine HFILL.out.mono ?_
          clear HFILL
          rintro e v5 ⟨g, gs, v, rfl, hb5, hg5, hgo5, hv0, hf5, hz5, hp5⟩
          have hb5' := HB.out.trans (hb5.mono (by omega))
          have hk5 := HK.out.below hb5 hPw
          have ho5 := HO.out.below hb5 (Nat.le_refl _)
          have hG5 := HK1.out.below hb5' hSP
          clear c0 c1 k0 k1
          have c0 := hG5.cell 0
          obtain ⟨T, hT⟩ : ∃ T, T = v5.heap.size := ⟨_, rfl⟩
          have hPT : P < T := by rw [hT]; exact hk5.lt
          have hgT : g < T := by rw [hT]; exact Blk.lt hgo5
          have HB5 := Lib.hid hb5'
          have HK5 := Lib.hid hk5
          have HO5 := Lib.hid ho5
          have HG5 := Lib.hid hG5
          have HGO := Lib.hid hgo5
          have HF := Lib.hid hf5
          have HZ := Lib.hid hz5
          have HPP := Lib.hid hp5
          have HT := Lib.hid hT
          clear hb5 hb5' hk5 ho5 hG5 hgo5 hf5 hz5 hp5 hT HB HK HO HKG
          go_wp2_with (at_make; go_loud (
            refine wpList_make1 rfl _ _ _ rfl T 30 24 (fun s : Sls Int => s.val) ⟨none, 0, []⟩ Try.underlying25 (by kernel_rfl) rfl _ .i64 .i64 j rfl rfl (by omega) (by unfold maxLen; omega) (by rw [HT.out]; exact Nat.le_refl _) ?_
            intro v6 hown6 hgrow6
            rw [← HT.out] at hown6
            have htab6 := TabG.made hown6
            have hb6 : Below T v5 v6 := (Below.refl T v5).grown hgrow6 (by rw [HT.out]; exact Nat.le_refl _) (fun g e => by cases e)
            have HTAB := Lib.hid htab6
            have HB6 := Lib.hid hb6
            have hn6 := (HK5.out.below hb6 hPT).cell 1
            clear hown6 hgrow6 htab6 hb6))
          rw [← HT.out]
          have hTz : T ≤ v6.heap.size := by have := HB6.out.size; rw [← HT.out] at this; exact this
          go_loopw [90, 17, 18] (fun s90 _ _ wr => ∃ q : Nat, q ≤ m ∧ s90 = .int .i64 q ∧ NextW T T j v5 (lnA j l) gs q wr) (fun s90 _ _ _ => m - (intOf s90).toNat)
          case atStart => exact ⟨0, Nat.zero_le _, rfl, HB6.out, _, HTAB.out, fun u hu => by
            rw [List.take_zero]
            unfold rwG
            rw [List.getD_eq_getElem?_getD, List.getElem?_replicate]
            split <;> rfl⟩
          case round =>
            clear HTAB HB6 hn6 c0 hTz
            rename World => wr
            obtain ⟨q, hq, rfl, hb, rows, htab, hrows⟩ := hrel
            have hTw : T < wr.heap.size := htab.lt.2
            by_cases hqm : q < m
            · have hql : q < (lnA j l).length := by rw [← HMm.out]; exact hqm
              have hqg : q < gs.length := by rw [HF.out.cap.len]; exact hql
              have hoq := HO5.out.below hb (by rw [HT.out]; exact Nat.le_refl _)
              obtain ⟨ba, oa, rfl, hba, g0, g1, g2, g3⟩ := hoq.els.at4 (f := fun a : Arc => .int .i64 a.f) (g := fun a : Arc => .int .i64 a.t) (p := fun a : Arc => .int .i64 a.m) (q := fun a : Arc => .int .i64 a.e) hql
              have hgB : GoesB wr g gs := Blk.below HGO.out hb hgT
              have hgo := hgB.at_ hqg
              have hsn := outsA_snoc (lnA j l) gs q
              rw [← getD_at (lnA j l) q hql z4] at g0 g1 g2 g3
              obtain ⟨⟨af, at_, am, ac⟩, har⟩ : ∃ a : Arc, a = (lnA j l).getD q z4 := ⟨_, rfl⟩
              obtain ⟨gq, hgq⟩ : ∃ x, x = gs.getD q 0 := ⟨_, rfl⟩
              rw [← har] at g0 g1 g2 g3 hsn
              rw [← hgq] at hgo hsn
              simp only at g0 g1 g2 g3 hsn
              have hfr : (af : Int) < j ∨ ∃ u : Nat, u < j ∧ af = (j : Int) + u := by
                have := HF.out
                have hmem : (⟨af, at_, am, ac⟩ : Arc) ∈ lnA j l := by rw [har, getD_at _ q hql]; exact List.getElem_mem hql
                rcases mem_lnA.1 hmem with ⟨i, hi, e⟩ | ⟨e', he', e | e⟩
                · injection e with e1
                  exact .inl (by rw [e1]; show (i : Int) < j; omega)
                · injection e with e1
                  have := (HG.out.ed e' he').a0
                  have := (HG.out.ed e' he').a1
                  exact .inr ⟨e'.a.toNat, by omega, by omega⟩
                · injection e with e1
                  have := (HG.out.ed e' he').b0
                  have := (HG.out.ed e' he').b1
                  exact .inr ⟨e'.b.toNat, by omega, by omega⟩
              have hGr := HG5.out.below hb (by omega)
              obtain ⟨K, hK⟩ : ∃ K, K = wr.heap.size := ⟨_, rfl⟩
              obtain ⟨V, hV⟩ : ∃ V, V = wr.alloc (.cells #[.int .i64 af, .int .i64 at_, .int .i64 am, .int .i64 ac] 45) := ⟨_, rfl⟩
              have hTK : T < K := by rw [hK]; exact hTw
              have hbV : Below T v5 V := by rw [hV]; exact hb.alloc (by omega) _
              have htV : TabG V T T j rows := by rw [hV]; exact htab.alloc _
              have hxV : Blk V K 45 #[.int .i64 af, .int .i64 at_, .int .i64 am, .int .i64 ac] := by rw [hV, hK]; exact Blk.new wr _ _
              have hgV : Blk V S 24 #[.int .i64 (j : Int), .slice A k c] := by rw [hV]; exact hGr.alloc _
              have hgo2 : V.cell? ⟨g, q, none⟩ = some (.int .i64 gq) := by
                rw [hV, hgq]
                have hgB2 : GoesB (wr.alloc (.cells #[.int .i64 af, .int .i64 at_, .int .i64 am, .int .i64 ac] 45)) g gs := Blk.alloc hgB _
                exact hgB2.at_ hqg
              have x0 := hxV.cell 0
              have x1 := hxV.cell 1
              have y0 := hgV.cell 0
              have HV := Lib.hid hV
              have HK := Lib.hid hK
              have HBV := Lib.hid hbV
              have HTV := Lib.hid htV
              have HXV := Lib.hid hxV
              have HGV := Lib.hid hgV
              have HROW := Lib.hid hrows
              have hgl : gs.length = (lnA j l).length := HF.out.cap.len
              have HSN : Hid (∀ u : Nat, outsA ((lnA j l).take (q + 1)) (gs.take (q + 1)) ((j : Int) + u) = outsA ((lnA j l).take q) (gs.take q) ((j : Int) + u) ++ if af = (j : Int) + u ∧ 0 < gq then [at_] else []) := Lib.hid fun u => hsn _ hql hgl
              clear hgl
              have X0 := Lib.hid x0
              have X1 := Lib.hid x1
              have Y0 := Lib.hid y0
              rw [hV] at hgo2 y0
              rw [hV, hK] at x0 x1
              by_cases hc : 0 < gq
              · by_cases hf : (j : Int) ≤ af
                · obtain ⟨u, hu, huf⟩ : ∃ u : Nat, u < j ∧ af = (j : Int) + u := hfr.resolve_left (by omega)
                  have hdec : decide (af < (j : Int)) = false := decide_eq_false (by omega)
                  obtain ⟨⟨skA, skc, skl⟩, hsk⟩ : ∃ s : Sls Int, s = rwG rows u := ⟨_, rfl⟩
                  obtain ⟨L, hL⟩ : ∃ L, L = skl.length := ⟨_, rfl⟩
                  have hat := htV.at_ hu
                  rw [← hsk] at hat
                  have e8 : IntKind.i64.wrap (af - (j : Int)) = (u : Int) := by rw [IntWalk.i64_in _ (by omega)]; omega
                  have ht0 : V.cell? ⟨T, u, none⟩ = some (.slice skA L skc) := by rw [hL]; exact hat.1
                  have HU := Lib.hid huf
                  have HSK := Lib.hid hsk
                  have hL100 : L ≤ 100 := by
                    have h1 := hrows u hu
                    rw [← hsk] at h1
                    have h2 : L = (outsA ((lnA j l).take q) (gs.take q) ((j : Int) + u)).length := by rw [hL]; exact congrArg List.length h1
                    have h3 := outsA_len ((j : Int) + u) ((lnA j l).take q) (gs.take q)
                    rw [List.length_take] at h3
                    omega
                  have HLL := Lib.hid hL
                  have HT0 := Lib.hid ht0
                  have hcb : decide (0 < gq) = true := decide_eq_true hc
                  clear hb htab hrows hoq hgo hgB hsn har hgq hfr hGr hK hV hbV htV hxV hgV huf hsk hL hat ht0
                  go_wp2_with fail
                  rw [← HV.out, ← HK.out]
                  refine region_plain 19 20 (fun w' => w'.cell? ⟨S, 0, none⟩ = some (.int .i64 (j : Int)) ∧ w'.cell? ⟨K, 0, none⟩ = some (.int .i64 af) ∧ w'.cell? ⟨K, 1, none⟩ = some (.int .i64 at_) ∧ w'.cell? ⟨T, u, none⟩ = some (.slice skA L skc)) (by kernel_rfl) rfl ?_
                  refine anyC_reads (by kernel_rfl) [0, 1, 2, 3, 4, 5, 6, 7, 8, 9, 10, 11, 12, 13, 14, 15] ?opz ?ohz 4 _ _ _ (by kernel_rfl) ?okz
                  case ohz => (simp only [List.filterMap_cons, List.filterMap_nil, List.getElem?_toArray, List.getElem?_cons_zero, List.getElem?_cons_succ]; try rfl)
                  repeat (
                    refine readC_step (v := ?_) rfl (fun w' hw' => ?_) ?_
                    rotate_left
                    focus (obtain ⟨p1, p2, p3, p4⟩ := hw'; go_simp; try with_reducible rfl)
                    go_simp)
                  refine readC_nil ?_
                  refine anyC_one (i := 16) (by kernel_rfl) rfl rfl (.inr ⟨Y0.out, X0.out, X1.out, HT0.out⟩) ?_
                  go_simp
                  have hck := HTV.out.row u hu
                  rw [← HSK.out] at hck
                  have hlit := (Blk.new V 3 #[.int .i64 at_]).drew
                  have hck7 := (hck.alloc (.cells #[.int .i64 at_] 3)).drew
                  have htab7 := (HTV.out.alloc (.cells #[.int .i64 at_] 3)).drew
                  have hx7 := (HXV.out.alloc (.cells #[.int .i64 at_] 3)).drew
                  have hg7 := (HGV.out.alloc (.cells #[.int .i64 at_] 3)).drew
                  have hb7 := (HBV.out.alloc (by have := HXV.out.lt; omega) (.cells #[.int .i64 at_] 3)).drew
                  have hz7 : T ≤ ((V.alloc (.cells #[.int .i64 at_] 3)).drew).heap.size := by have := htab7.lt; omega
                  obtain ⟨w7, hw7⟩ : ∃ w7, w7 = (V.alloc (.cells #[.int .i64 at_] 3)).drew := ⟨_, rfl⟩
                  rw [← hw7] at hlit hck7 htab7 hx7 hg7 hb7 hz7
                  have hat7 := htab7.at_ hu
                  rw [← HSK.out] at hat7
                  have t7 : w7.cell? ⟨T, u, none⟩ = some (.slice skA L skc) := by rw [HLL.out]; exact hat7.1
                  have x70 := hx7.cell 0
                  have x71 := hx7.cell 1
                  have y70 := hg7.cell 0
                  have HLIT := Lib.hid hlit
                  have HCK7 := Lib.hid hck7
                  have HTAB7 := Lib.hid htab7
                  have HX7 := Lib.hid hx7
                  have HG7 := Lib.hid hg7
                  have HB7 := Lib.hid hb7
                  have HW7 := Lib.hid hw7
                  clear hlit hck7 htab7 hx7 hg7 hb7 hw7 hat7 hck
                  rw [← HW7.out]
                  refine anyC_one (i := 17) (by kernel_rfl) rfl rfl (.inr ⟨y70, x70, x71, t7⟩) ?_
                  refine wp_append_els _ _ 30 rfl T 1 3 (.int .i64 0) 8 Try.underlying30 (by kernel_rfl) rfl (by omega) icell _ skA L skc skl HLL.out.symm rfl HCK7.out _ 1 1 [at_] rfl rfl _ (els_of_blk HLIT.out 1 icell (fun _ => rfl) [at_] rfl) (by simp [Value.oneCell']) (by unfold maxLen; omega) (by omega) hz7 ?_
                  intro A8 cap8 w8 hown8 hgrow8 hloc8
                  have hx8 := HX7.out.grown hgrow8 (fun e => own_far_blk HCK7.out HX7.out (by decide) e.symm)
                  have hg8 := HG7.out.grown hgrow8 (fun e => own_far_blk HCK7.out HG7.out (by decide) e.symm)
                  have hput := HTAB7.out.put (s := ⟨A8, cap8, skl ++ [at_]⟩) hu (by rw [← HSK.out]; exact hgrow8) hown8 (by rw [← HSK.out]; exact hloc8)
                  have hsv : (⟨A8, cap8, skl ++ [at_]⟩ : Sls Int).val = .slice A8 (L + 1) cap8 := by
                    show Value.slice A8 (skl ++ [at_]).length cap8 = _
                    rw [List.length_append, ← HLL.out]
                    rfl
                  rw [hsv] at hput
                  have htab8 : Own w8 T 30 1 slG (some ⟨T, 0, none⟩) j rows := HTAB7.out.tab.kept hgrow8 (Own.apart HTAB7.out.tab HCK7.out (by decide))
                  obtain ⟨gt', hgt', _, _, t8, f8⟩ := htab8.cell1 (f := fun s : Sls Int => s.val) (k := u) (by rw [HTAB7.out.rl]; exact hu)
                  have hTe : T = gt' := by simpa using hgt'
                  subst hTe
                  have t81 : w8.cell? ⟨T, u, none⟩ = some (.slice skA L skc) := by
                    rw [t8, ← getD_at rows u (by rw [HTAB7.out.rl]; exact hu) ⟨none, 0, []⟩, show rows.getD u ⟨none, 0, []⟩ = rwG rows u from rfl, ← HSK.out, HLL.out]
                  have hb8 := (HB7.out.grown hgrow8 hz7 (fun g hg => (HCK7.out.lt g hg).1)).setCell (p := ⟨T, u, none⟩) (Nat.le_refl _) (.slice A8 (L + 1) cap8)
                  have HN : Hid (NextW T T j v5 (lnA j l) gs (q + 1) (w8.setCell ⟨T, u, none⟩ (.slice A8 (L + 1) cap8))) := Lib.hid ⟨hb8, _, hput, fun u' hu' => by
                    rw [show rwG (rows.set u ⟨A8, cap8, skl ++ [at_]⟩) u' = if u = u' then ⟨A8, cap8, skl ++ [at_]⟩ else rwG rows u' from getD_set_G rows u u' _ _ (by rw [HTAB7.out.rl]; exact hu), HSN.out]
                    by_cases he : u = u'
                    · subst he
                      rw [if_pos rfl, if_pos ⟨HU.out, hc⟩, ← HROW.out u hu, ← HSK.out]
                    · rw [if_neg he, if_neg (by have := HU.out; omega), List.append_nil]
                      exact HROW.out u' hu'⟩
                  have x80 := hx8.cell 0
                  have x81 := hx8.cell 1
                  have y80 := hg8.cell 0
                  clear hput hb8 hown8 hgrow8 hloc8 hx8 hg8 htab8 hsv t8 x70 x71 y70 t7 x0 x1 y0 g0 g1 g2 g3
                  go_simp
                  refine anyC_one (i := 18) (by kernel_rfl) rfl rfl (.inr ⟨y80, x80, x81, t81⟩) ?_
                  go_simp
                  refine anyC_one (i := 19) (by kernel_rfl) rfl rfl (.inr ⟨y80, x80, x81, t81⟩) ?_
                  go_simp
                  refine anyC_end (by kernel_rfl) (.inl rfl) ?_
                  go_wp2_with fail
                  go_roundw
                  case rel => exact ⟨q + 1, by omega, by go_num, HN.out⟩
                  case measure => simp [intOf]; omega
                · have hdec : af < (j : Int) := by omega
                  have HN : Hid (NextW T T j v5 (lnA j l) gs (q + 1) V) := Lib.hid ⟨HBV.out, rows, HTV.out, fun u hu => by
                    rw [HSN.out, if_neg (by omega), List.append_nil]
                    exact HROW.out u hu⟩
                  rw [HV.out] at HN
                  clear hb htab hrows hoq hgo hgB hsn har hgq hfr hGr hK hV hbV htV hxV hgV
                  go_wp2_with fail
                  go_roundw
                  case rel => exact ⟨q + 1, by omega, by go_num, HN.out⟩
                  case measure => simp [intOf]; omega
              · have hcb : decide (0 < gq) = false := decide_eq_false hc
                have HN : Hid (NextW T T j v5 (lnA j l) gs (q + 1) V) := Lib.hid ⟨HBV.out, rows, HTV.out, fun u hu => by
                  rw [HSN.out, if_neg (by omega), List.append_nil]
                  exact HROW.out u hu⟩
                rw [HV.out] at HN
                clear hb htab hrows hoq hgo hgB hsn har hgq hfr hGr hK hV hbV htV hxV hgV
                go_wp2_with fail
                go_roundw
                case rel => exact ⟨q + 1, by omega, by go_num, HN.out⟩
                case measure => simp [intOf]; omega
            · obtain rfl : q = m := by omega
              rw [HMm.out, List.take_length, ← HF.out.cap.len, List.take_length] at hrows
              obtain ⟨skA, skc, skl, hsk⟩ : ∃ skA skc skl, rwG rows a = ⟨skA, skc, skl⟩ := ⟨_, _, _, rfl⟩
              have hat := (htab.at_ haN).1
              have hro := htab.row a haN
              have hra := hrows a haN
              rw [hsk] at hat hro hra
              have hra' : skl = nxA j l gs a := hra
              obtain ⟨L, hL⟩ : ∃ L, L = skl.length := ⟨_, rfl⟩
              have hL100 : L ≤ 100 := by
                have h1 := outsA_len ((j : Int) + a) (lnA j l) gs
                have h2 : L = (outsA (lnA j l) gs ((j : Int) + a)).length := by rw [hL]; exact congrArg List.length hra
                have h3 := HMm.out
                omega
              have hat' : wr.cell? ⟨T, a, none⟩ = some (.slice skA L skc) := by rw [hL]; exact hat
              have hNX := nx_ok HG.out haN hbN hab (v := v) (by have := HF.out; rw [HM.out] at this; exact this) (by have := HZ.out; rw [show ((j + a : Nat) : Int) = (j : Int) + a from by omega]; exact this)
              have HNX := Lib.hid hNX
              have HTAB := Lib.hid htab
              have HROWS := Lib.hid hrows
              have HRO := Lib.hid hro
              have HRA := Lib.hid hra'
              have HLL := Lib.hid hL
              have HB := Lib.hid hb
              have hlt2 : T < wr.heap.size := hTw
              clear hb htab hrows hsk hat hro hra hra' hL hNX
              go_wp2_with fail
              obtain ⟨Y, hY⟩ : ∃ Y, Y = wr.heap.size := ⟨_, rfl⟩
              have HY := Lib.hid hY
              have hTY : T < Y := by omega
              clear hY
              go_loopw [132, 19, 21, 22] (fun s132 s19 _ _ wq => ApI j l a b (nxA j l gs) Y L wr s132 s19 wq) (fun s132 _ _ _ _ => L - (intOf s132).toNat)
              case atStart => exact ⟨0, 0, none, [], [], Nat.zero_le _, rfl, rfl, Below.refl _ _, OutG.nil _ _, rfl, MetI.nil _ _ _ _, WaysOk.nil _ _ _ _⟩
              case round =>
                clear hat'
                rename World => wq
                obtain ⟨i, capo, Ao, ways, Sm, hi, rfl, rfl, hb, hout, hwl, hmet, hways⟩ := hrel
                have hzq := hb.size
                rw [← HY.out] at hzq
                by_cases hiL : i < L
                · have hil : i < skl.length := by rw [← HLL.out]; exact hiL
                  have hro := HRO.out.below hb (by rw [HY.out]; exact Nat.le_refl _)
                  obtain ⟨gr, rfl, hgr1, hgr2, r0, _⟩ := hro.cell1 (f := fun x : Int => .int .i64 x) hil
                  obtain ⟨x, hx⟩ : ∃ x, x = skl[i] := ⟨_, rfl⟩
                  have hxn : (nxA j l gs a)[i]? = some x := by rw [← HRA.out, hx]; exact List.getElem?_eq_getElem hil
                  rw [← hx] at r0
                  obtain ⟨f0, f1, f2, f3, f4, f5⟩ := hmet.fresh HNX.out haN hadj hab hxn
                  have hms := hmet.start HNX.out haN hadj hab hxn
                  have hlit := Own.lit wq Y 3 #[.int .i64 (a : Int)] (fun _ => rfl : ∀ x, (icell x).length = 1) [(a : Int)] 1 rfl rfl (by unfold maxLen; omega) hzq
                  have hJ : ApJ j l a b (nxA j l gs) Y i capo Ao ways Sm wr (.int .i64 x) (.slice (some ⟨wq.heap.size, 0, none⟩) 1 1) (wq.alloc (.cells #[.int .i64 (a : Int)] 3)) := by
                    refine ⟨x, _, 1, 1, [], rfl, rfl, rfl, hb.alloc hzq _, hout.alloc _, hlit, fun s hs g hg e => ?_, ?_, by rw [List.append_nil]; exact hmet.mono (by omega), fun _ => by rw [List.append_nil]; exact hms, f1, f2⟩
                    · have h1 := ((hout.row s hs).lt g hg).2
                      have h2 : wq.heap.size = g := by simpa [blkOf] using e
                      omega
                    · exact ChI.snoc (p := []) (ChI.one l (a : Int)) (by simpa using f5)
                  have HJ := Lib.hid hJ
                  have HOUT := Lib.hid hout
                  have HWL := Lib.hid hwl
                  have HWAYS := Lib.hid hways
                  clear hb hout hwl hmet hways hro hx hxn f0 f3 f4 f5 hms hlit hJ
                  go_wp2_with fail
                  go_loopw [21, 22] (fun s21 s22 wz => ApJ j l a b (nxA j l gs) Y i capo Ao ways Sm wr s21 s22 wz) (fun _ s22 _ => j + 2 - lenV s22)
                  case atStart => exact HJ.out
                  case round =>
                    clear HJ HOUT r0 hzq
                    rename World => wz
                    obtain ⟨y, Aw, n22, capw, q', rfl, rfl, hn22, hb, hout, hown, hfar, hch, hmq, hmj, y0, y1⟩ := hrel
                    have hzz := hb.size
                    rw [← HY.out] at hzz
                    have hshort := hmq.short
                    rw [List.length_append] at hshort
                    have hlen : ((a : Int) :: q').length = n22 := by rw [hn22]; rfl
                    have hn12 : n22 ≤ 12 := by omega
                    have HN22 := Lib.hid hn22
                    have HB := Lib.hid hb
                    have HOUT := Lib.hid hout
                    have HOWN := Lib.hid hown
                    have HFAR := Lib.hid hfar
                    have HCH := Lib.hid hch
                    have HMQ := Lib.hid hmq
                    have HLEN := Lib.hid hlen
                    by_cases hyb : y = b
                    · subst hyb
                      clear hn22 hb hout hown hfar hch hmq hmj hlen hshort
                      go_wp2_with (at_builtin; first
                        | (refine wpList_push rfl _ _ _ rfl Y 1 30 (.slice none 0 0) 24 Try.underlying25 (by kernel_rfl) rfl (by omega) slG w9 #[.slice A9 (n22 + 1) cap9] Ao i capo ways HWL.out rfl HO9.out.tab 1 [⟨A9, cap9, (a : Int) :: q' ++ [(b : Int)]⟩] rfl (by rw [HL9.out]; rfl) w9.heap.size rfl rfl (by simp [Value.oneCell']) (by unfold maxLen; omega) (by omega) hz9 ?_
                           intro A10 cap10 w10 hown10 hgrow10 hloc10
                           have hb10 := (HB9.out.alloc hz9 (.cells #[.slice A9 (n22 + 1) cap9] 30)).grown hgrow10 (by rw [size_alloc']; omega) (fun g e => (HO9.out.tab.lt g e).1)
                           have ho10 := (HO9.out.alloc (.cells #[.slice A9 (n22 + 1) cap9] 30)).more (HW9.out.alloc (.cells #[.slice A9 (n22 + 1) cap9] 30)) hgrow10 hown10
                           have HB10 := Lib.hid hb10
                           have HO10 := Lib.hid ho10
                           clear hown10 hgrow10 hloc10 hb10 ho10)
                        | (refine wpList_push rfl _ _ _ rfl Y 1 3 (.int .i64 0) 8 Try.underlying30 (by kernel_rfl) rfl (by omega) icell wz #[.int .i64 (b : Int)] Aw n22 capw ((a : Int) :: q') HLEN.out rfl HOWN.out 1 [(b : Int)] rfl rfl wz.heap.size rfl rfl (by simp [Value.oneCell']) (by unfold maxLen; omega) (by omega) hzz ?_
                           intro A9 cap9 w9 hown9 hgrow9 hloc9
                           have hb9 := (HB.out.alloc hzz (.cells #[.int .i64 (b : Int)] 3)).grown hgrow9 (by rw [size_alloc']; omega) (fun g e => (HOWN.out.lt g e).1)
                           have hz9 := hb9.size
                           rw [← HY.out] at hz9
                           have ho9 := (HOUT.out.alloc (.cells #[.int .i64 (b : Int)] 3)).beside (HOWN.out.alloc (.cells #[.int .i64 (b : Int)] 3)) HFAR.out hgrow9
                           have hl9 : n22 + 1 = ((a : Int) :: q' ++ [(b : Int)]).length := by rw [List.length_append, HLEN.out]; rfl
                           have HB9 := Lib.hid hb9
                           have HO9 := Lib.hid ho9
                           have HW9 := Lib.hid hown9
                           have HL9 := Lib.hid hl9
                           clear hown9 hgrow9 hloc9 hb9 ho9 hl9))
                      go_roundw
                      case rel => exact ⟨i + 1, cap10, A10, ways ++ [⟨A9, cap9, (a : Int) :: q' ++ [(b : Int)]⟩], Sm ++ q', by omega, by go_num, rfl, HB10.out, HO10.out, by rw [List.length_append, HWL.out]; rfl, HMQ.out, by rw [List.map_append]; exact HWAYS.out.more HCH.out⟩
                      case measure => simp [intOf]; omega
                    · obtain ⟨yn, rfl⟩ : ∃ yn : Nat, y = yn := ⟨y.toNat, by omega⟩
                      have hst := way_step HNX.out haN (hmj hyb)
                      have hshort2 := (hmj hyb).short
                      rw [List.length_append, List.length_append, List.length_singleton] at hshort2
                      have hmj2 := hmj hyb
                      obtain ⟨x', hx', x0, x1, x2, x3⟩ := hst
                      have hyj : yn < j := by omega
                      obtain ⟨rA, rc, rl, hrow⟩ : ∃ rA rc rl, rwG rows yn = ⟨rA, rc, rl⟩ := ⟨_, _, _, rfl⟩
                      have hrl : rl = [x'] := by
                        have := HROWS.out yn hyj
                        rw [hrow] at this
                        exact this.trans hx'
                      subst hrl
                      have hybb : ((yn : Int) == (b : Int)) = false := by simpa using hyb
                      have HROW := Lib.hid hrow
                      have HX2 := Lib.hid x2
                      have HX3 := Lib.hid x3
                      have HMJ2 := Lib.hid hmj2
                      clear hn22 hb hout hown hfar hch hmq hmj hlen hshort hx' hrow x2 x3 hmj2 hyb
                      go_wp2_with (at_builtin; go_loud (
                        refine wpList_push rfl _ _ _ rfl Y 1 3 (.int .i64 0) 8 Try.underlying30 (by kernel_rfl) rfl (by omega) icell wz #[.int .i64 (yn : Int)] Aw n22 capw ((a : Int) :: q') HLEN.out rfl HOWN.out 1 [(yn : Int)] rfl rfl wz.heap.size rfl rfl (by simp [Value.oneCell']) (by unfold maxLen; omega) (by omega) hzz ?_
                        intro A9 cap9 w9 hown9 hgrow9 hloc9
                        have hb9 := (HB.out.alloc hzz (.cells #[.int .i64 (yn : Int)] 3)).grown hgrow9 (by rw [size_alloc']; omega) (fun g e => (HOWN.out.lt g e).1)
                        have hz9 := hb9.size
                        rw [← HY.out] at hz9
                        have ho9 := (HOUT.out.alloc (.cells #[.int .i64 (yn : Int)] 3)).beside (HOWN.out.alloc (.cells #[.int .i64 (yn : Int)] 3)) HFAR.out hgrow9
                        have htab9 := HTAB.out.below hb9 (by rw [HY.out]; exact Nat.le_refl _)
                        have hat9 := (htab9.at_ hyj).1
                        have hrw9 := htab9.row yn hyj
                        rw [HROW.out] at hat9 hrw9
                        obtain ⟨gr9, hgr9, _, _, r9, _⟩ := hrw9.cell1 (f := fun x : Int => .int .i64 x) (k := 0) (by simp)
                        simp only at hgr9
                        subst hgr9
                        have hat10 : w9.cell? ⟨T, yn, none⟩ = some (.slice (some ⟨gr9, 0, none⟩) 1 rc) := hat9
                        have r10 : w9.cell? ⟨gr9, 0, none⟩ = some (.int .i64 x') := r9
                        have hfar9 : ∀ s ∈ ways, ∀ g, blkOf s.A = some g → blkOf A9 ≠ some g := fun s hs g hg e => by
                          rcases hloc9 with e2 | e2
                          · exact HFAR.out s hs g hg (by rw [← e2]; exact e)
                          · have h1 := ((HOUT.out.row s hs).lt g hg).2
                            rw [e] at e2
                            have h2 : g = wz.heap.size + 1 := by simpa using e2
                            omega
                        have HB9 := Lib.hid hb9
                        have HO9 := Lib.hid ho9
                        have HW9 := Lib.hid hown9
                        have HF9 := Lib.hid hfar9
                        clear hown9 hgrow9 hloc9 hb9 ho9 htab9 hat9 hrw9 r9 hfar9))
                      go_roundw
                      case rel => exact ⟨x', A9, n22 + 1, cap9, q' ++ [(yn : Int)], rfl, rfl, by rw [List.length_append, HN22.out]; rfl, HB9.out, HO9.out, HW9.out, HF9.out, HCH.out.push HX2.out, by rw [← List.append_assoc]; exact HMJ2.out, HX3.out, x0, x1⟩
                      case measure => (have := HN22.out; simp [lenV]; omega)
                · obtain rfl : i = L := by omega
                  have hsrc := HNX.out.src
                  have hvv : (i : Int) = v := by rw [← hsrc, ← HRA.out, ← HLL.out]
                  have HB9 := Lib.hid (((HB1.out.trans (HB5.out.mono (by omega))).trans (HB.out.mono (by omega))).trans (hb.mono (by omega)))
                  have HOUT := Lib.hid hout
                  have HWL := Lib.hid hwl
                  have HMET := Lib.hid hmet
                  have HWAYS := Lib.hid hways
                  have HVV := Lib.hid hvv
                  clear hb hout hwl hmet hways hsrc hvv
                  go_wp2_with fail
                  go_ret2
                  refine ⟨Ao, capo, Y, ways, Sm, gs, v, by rw [HWL.out]; rfl, by rw [← HS.out]; exact HB9.out, HOUT.out, HWAYS.out, HMET.out.nd, HMET.out.low, by rw [HWL.out]; exact HVV.out, by rw [← HM.out]; exact HF.out, ?_⟩
                  obtain ⟨p, p1, p2, p3⟩ := HPP.out
                  exact ⟨p, p1, p2, p3⟩
end Go.Proofs.Ytjkfogkpacmdlaa
