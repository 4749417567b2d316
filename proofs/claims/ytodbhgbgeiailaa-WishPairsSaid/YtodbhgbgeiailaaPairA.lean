/- The pairing that the program makes. Conditions: the wishes are good. -/
import Derived.Test.YtodbhgbgeiailaaAskW
import Derived.Test.YtodbhgbgeiailaaRepeat
import Derived.Test.YtodbhgbgeiailaaRegD
import Derived.WideLaws
import Derived.BigQuiet
import Derived.Deep.CutRange
import Derived.Deep.DeepCutAuto
namespace Go.Proofs.Ytodbhgbgeiailaa
open Go.RowKit

set_option maxRecDepth 100000 in
set_option maxHeartbeats 1000000 in
theorem wish_Pair_bad (AL AR : Option Addr) (nL cL nR cR : Nat) (L R : List (Sls Int)) (w : World) (hL : L.length = nL) (hR : R.length = nR) (hnL : nL ≤ maxLen) (hnR : nR ≤ maxLen) (hwi : WishIn w w.heap.size AL AR L R) (he : wishCheck L R ≠ 0) :
    Calls Try.prog 17 #[.agg #[.slice AL nL cL, .slice AR nR cR]] w fun e w' => e = .returned (.tuple #[.slice none 0 0, .int .i64 (wishCheck L R)]) ∧ Below w.heap.size w w' := by
  have hb0 := (Below.refl w.heap.size w).alloc (Nat.le_refl _) (.cells #[.slice AL nL cL, .slice AR nR cR] 38)
  have hw1 := (hwi.below hb0).more (show w.heap.size ≤ (w.alloc (.cells #[.slice AL nL cL, .slice AR nR cR] 38)).heap.size by rw [size_alloc']; omega)
  have HE := Lib.hid (wish_Check AL AR nL cL nR cR L R _ hL hR hnL hnR hw1.l hw1.gl hw1.r hw1.gr)
  have HB0 := Lib.hid hb0
  have h1 : (wishCheck L R != 0) = true := by simpa using he
  generalize wishCheck L R = x at HE h1
  clear hL hR hnL hnR hwi he hb0 hw1
  go_enter Try.func17, Try.ntmps17
  go_wp2_with fail
  refine HE.out.mono ?_
  clear HE
  rintro e v1 ⟨rfl, hb1⟩
  rw [size_alloc'] at hb1
  have HB1 := Lib.hid (HB0.out.trans (hb1.mono (by omega)))
  clear hb1 HB0
  go_wp2_with fail
  go_ret2
  exact ⟨rfl, HB1.out⟩
theorem AskM.drew {S n cL cR : Nat} {AL AR : Option Addr} {gh gx : Nat} {has : Nat → Int} {nx : Nat → Nat} {w wr : World} (h : AskM S n cL cR AL AR gh gx has nx w wr) : AskM S n cL cR AL AR gh gx has nx w wr.drew :=
  ⟨h.bel.drew, h.kw.drew, h.h, h.x⟩
/-- Where the two rows are made. -/
def PairMade (S n cL cR : Nat) (AL AR : Option Addr) (w : World) (s6 s7 : Value) (wx : World) : Prop :=
  ∃ gh gx : Nat, s6 = .slice (some ⟨gh, 0, none⟩) n n ∧ s7 = .slice (some ⟨gx, 0, none⟩) n n ∧ S < gh ∧ S < gx ∧ gh ≠ gx ∧ AskM S n cL cR AL AR gh gx (fun _ => -1) (fun _ => 0) w wx

theorem side_at2 {W : World} {B B' : Nat} {A : Option Addr} {L : List (Sls Int)} (hr : Els W B 1 rcell A L) (hg : ∀ s ∈ L, s.Good W B' 1 icell OkI) {i : Nat} (hi : i < L.length) :
    ∃ b off As cs, A = some ⟨b, off, none⟩ ∧ b < B ∧ W.cell? ⟨b, off + i, none⟩ = some (.slice As (ls L i).length cs) ∧ Els W B' 1 icell As (ls L i) ∧ (ls L i).length ≤ maxLen := by
  obtain ⟨b, off, rfl, hb, g0⟩ := hr.at1 hi
  have h := hg L[i] (List.getElem_mem hi)
  have e : ls L i = L[i].l := by unfold ls; simp [List.getD_eq_getElem?_getD, hi]
  rw [e]
  exact ⟨b, off, L[i].A, L[i].c, rfl, hb, g0, h.2.2.1, h.1⟩
/-- Between two on the left. -/
def PairO (S n cL cR : Nat) (AL AR : Option Addr) (L R : List (Sls Int)) (gh gx : Nat) (w : World) (s29 : Value) (wr : World) : Prop :=
  ∃ (i : Nat) (has : Nat → Int) (nx : Nat → Nat), i ≤ n ∧ s29 = .int .i64 i ∧ AskM S n cL cR AL AR gh gx has nx w wr ∧ AskO n L R has nx i
/-- While one asks. -/
def PairT (S n cL cR : Nat) (AL AR : Option Addr) (L R : List (Sls Int)) (gh gx i : Nat) (w : World) (s9 : Value) (wr : World) : Prop :=
  ∃ (t : Int) (has : Nat → Int) (nx : Nat → Nat), s9 = .int .i64 t ∧ AskM S n cL cR AL AR gh gx has nx w wr ∧ AtI n L R has nx i t
set_option maxRecDepth 100000 in
set_option maxHeartbeats 1000000 in
theorem wish_Pair (AL AR : Option Addr) (n cL cR : Nat) (L R : List (Sls Int)) (w : World) (hL : GoodL n L) (hR : GoodL n R) (hnd : ∀ a, (ls L a).Nodup) (hwi : WishIn w w.heap.size AL AR L R) (he : wishCheck L R = 0) :
    Calls Try.prog 17 #[.agg #[.slice AL n cL, .slice AR n cR]] w fun e w' => ∃ g, e = .returned (.tuple #[.slice (some ⟨g, 0, none⟩) n n, .int .i64 0]) ∧ Below w.heap.size w w' ∧ GlB w' g (pairF L R n) := by
  have hn8 := hL.n8
  have hi1 : (Try.prog.info? 3).map (fun i => (i.zero, i.size, i.bytes)) = some (some (.int .i64 0), 1, 8) := rfl
  obtain ⟨i1, a1, b1, c1, d1⟩ := info_parts hi1
  have hm1 : ∀ W : World, (Instr.makeSlice 39 (.int .i64 n) (.int .i64 n)).run Try.prog W = .ok (.slice (some ⟨W.heap.size, 0, none⟩) n n) (W.alloc (.cells (madeCells #[.int .i64 0] n) 3)) := fun W => by
    have := run_make (P := Try.prog) W 39 3 i1 (.int .i64 0) (by kernel_rfl) a1 b1 .i64 .i64 n n (by omega) (Int.le_refl _) (by rw [d1]; omega) (by omega)
    rw [c1, Nat.mul_one, show (Value.int .i64 0).cells = #[Value.int .i64 0] from rfl] at this
    simpa using this
  clear hi1 a1 b1 c1 d1
  obtain ⟨S, hS⟩ : ∃ S, S = w.heap.size := ⟨_, rfl⟩
  have hb0 := (Below.refl w.heap.size w).alloc (Nat.le_refl _) (.cells #[.slice AL n cL, .slice AR n cR] 38)
  have hk0 := Blk.new w 38 #[.slice AL n cL, .slice AR n cR]
  have hw1 := (hwi.below hb0).more (show w.heap.size ≤ (w.alloc (.cells #[.slice AL n cL, .slice AR n cR] 38)).heap.size by rw [size_alloc']; omega)
  have hchk := wish_Check AL AR n cL n cR L R _ hL.len hR.len (by unfold maxLen; omega) (by unfold maxLen; omega) hw1.l hw1.gl hw1.r hw1.gr
  rw [he] at hchk
  have HE := Lib.hid hchk
  have c0 := hk0.cell 0
  have c1 := hk0.cell 1
  obtain ⟨W1, hW1⟩ : ∃ W1, W1 = w.alloc (.cells #[.slice AL n cL, .slice AR n cR] 38) := ⟨_, rfl⟩
  rw [← hW1, ← hS] at hb0 hk0
  have hz1 : W1.heap.size = S + 1 := by rw [hW1, size_alloc', hS]
  rw [← hS] at hwi
  have HB0 := Lib.hid hb0
  have HK0 := Lib.hid hk0
  have HW1 := Lib.hid hW1
  have HS := Lib.hid hS
  have HWI := Lib.hid hwi
  have HLG := Lib.hid hL
  have HRG := Lib.hid hR
  have HND := Lib.hid hnd
  clear hchk hb0 hk0 hw1 hW1 hS hwi he hL hR hnd
  go_enter Try.func17, Try.ntmps17
  go_wp2_with fail
  refine HE.out.mono ?_
  clear HE
  rintro e v1 ⟨rfl, hb1⟩
  rw [size_alloc', ← HW1.out, ← HS.out] at hb1
  have hk1 := HK0.out.below hb1 (by omega)
  have hbS := HB0.out.trans (hb1.mono (by omega))
  have hzv := hb1.size
  rw [← HS.out]
  have HK1 := Lib.hid hk1
  have HBS := Lib.hid hbS
  have d0 := hk1.cell 0
  clear hb1 hk1 hbS HB0 HK0 c0 c1 HW1
  have HREP : Hid (∀ (V : World) (g : Nat), Blk V g 3 #[.int .i64 (-1)] → Calls Try.prog 49 #[.slice (some ⟨g, 0, none⟩) 1 1, .int .i64 n] V fun e w' => e = .returned (.slice (some ⟨V.heap.size, 0, none⟩) n n) ∧ Below V.heap.size V w' ∧ GlB w' V.heap.size (List.replicate n (-1))) := Lib.hid (fun V g hg => by
    refine (Repeat_ints (-1) (some ⟨g, 0, none⟩) 1 n V.heap.size V (by omega) (els_of_blk hg 1 icell (fun _ => rfl) [(-1 : Int)] rfl)).mono ?_
    rintro e w' ⟨rfl, hb, ho⟩
    exact ⟨rfl, hb, GlB.of_own ho⟩)
  have HMADE : Hid (∀ V : World, GlB (V.alloc (.cells (madeCells #[.int .i64 0] n) 3)) V.heap.size (List.replicate n 0)) := Lib.hid (fun V =>
    GlB.of_own (lo := 0) (Own.block1 (f := fun x : Int => .int .i64 x) (x0 := 0) (Blk.new V 3 (madeCells #[.int .i64 0] n)) (by unfold maxLen; omega) (Nat.zero_le _)))
  obtain ⟨Z, hZ⟩ : ∃ Z, Z = v1.heap.size := ⟨_, rfl⟩
  have HFIN : Hid (∀ (gh gx : Nat) (wx : World), Below Z v1 wx → Z ≤ gh → Z ≤ gx → gh ≠ gx → GlB wx gh (List.replicate n (-1)) → GlB wx gx (List.replicate n 0) → PairMade S n cL cR AL AR w (.slice (some ⟨gh, 0, none⟩) n n) (.slice (some ⟨gx, 0, none⟩) n n) wx) := Lib.hid (fun gh gx wx hb h1 h2 hne hg1 hg2 => by
    have hSZ : S < Z := by rw [hZ]; exact HK1.out.lt
    refine ⟨gh, gx, rfl, rfl, by omega, by omega, hne, ⟨HBS.out.trans (hb.mono (by omega)), HK1.out.below hb hSZ, ?_, ?_⟩⟩
    · rw [rowF_same]; exact hg1
    · have := rowF_same n 0
      rw [show (fun a : Nat => (((fun _ => 0) a : Nat) : Int)) = fun _ => 0 from rfl, this]
      exact hg2)
  have HZ := Lib.hid hZ
  clear hZ
  go_upto_region 5 with fail
  clear d0
  go_cut [6, 7] from 15 (fun s6 s7 wx => PairMade S n cL cR AL AR w s6 s7 wx)
  case first =>
    refine region_plain 99 7 (fun _ => True) (by kernel_rfl) rfl ?_
    refine anyC_reads (by kernel_rfl) [1, 3] ?opg ?ohg 5 _ _ _ (by kernel_rfl) ?okg
    case ohg => (simp only [List.filterMap_cons, List.filterMap_nil, List.getElem?_toArray, List.getElem?_cons_zero, List.getElem?_cons_succ]; try rfl)
    repeat (
      refine readC_step (v := ?_) rfl (fun w' hw' => ?_) ?_
      rotate_left
      focus (go_simp; try with_reducible rfl)
      go_simp)
    refine readC_nil ?_
    have hbD : Below Z v1 v1.drew := (Below.refl _ v1).drew
    have hzD : v1.drew.heap.size = Z := HZ.out.symm
    obtain ⟨vd, hvd⟩ : ∃ vd, vd = v1.drew := ⟨_, rfl⟩
    rw [← hvd] at hbD hzD ⊢
    clear hvd
    refine anyD_two (i := 0) (j := 4) (by kernel_rfl) rfl rfl rfl rfl (.inr trivial) ?_ ?_
    · go_simp
      have k1 := Blk.new vd 3 #[.int .i64 (-1)]
      have b1 : Below Z v1 (vd.alloc (.cells #[.int .i64 (-1)] 3)) := hbD.alloc (by omega) _
      have z1 : (vd.alloc (.cells #[.int .i64 (-1)] 3)).heap.size = Z + 1 := by rw [size_alloc', hzD]
      rw [hzD] at k1
      obtain ⟨V1, hV1⟩ : ∃ V1, V1 = vd.alloc (.cells #[.int .i64 (-1)] 3) := ⟨_, rfl⟩
      rw [← hV1] at k1 b1 z1 ⊢
      clear hV1
      refine anyD_two (i := 2) (j := 4) (by kernel_rfl) rfl rfl rfl rfl (.inr trivial) ?_ ?_
      · go_simp
        refine (HREP.out V1 Z k1).mono ?_
        rintro e v4 ⟨rfl, hb4, ho4⟩
        have b4 : Below Z v1 v4 := b1.trans (hb4.mono (by omega))
        have z4 : Z + 1 < v4.heap.size := by rw [← z1]; exact ho4.lt
        have b5 := b4.alloc (by omega) (.cells (madeCells #[.int .i64 0] n) 3)
        have hfin := HFIN.out V1.heap.size v4.heap.size _ b5 (by omega) (by omega) (by omega) (ho4.below ((Below.refl _ v4).alloc (Nat.le_refl _) _) (by omega)) (HMADE.out v4)
        rw [z1] at hfin
        have HF := Lib.hid hfin
        clear hfin hb4 ho4 b4 b5
        go_simp
        refine anyD_two (i := 4) (j := 5) (by kernel_rfl) rfl rfl rfl rfl (.inr trivial) ?_ ?_
        · go_simp
          refine anyC_one (i := 5) (by kernel_rfl) rfl rfl (.inr trivial) ?_
          go_simp
          refine anyC_one (i := 6) (by kernel_rfl) rfl rfl (.inr trivial) ?_
          go_simp
          refine anyC_end (by kernel_rfl) (.inr trivial) ?_
          go_wp2_with fail
          go_meet
          case rel => exact HF.out
        · go_simp
          refine anyC_one (i := 4) (by kernel_rfl) rfl rfl (.inr trivial) ?_
          go_simp
          refine anyC_one (i := 6) (by kernel_rfl) rfl rfl (.inr trivial) ?_
          go_simp
          refine anyC_end (by kernel_rfl) (.inr trivial) ?_
          go_wp2_with fail
          go_meet
          case rel => exact HF.out
      · go_simp
        have b2 := b1.alloc (by omega) (.cells (madeCells #[.int .i64 0] n) 3)
        have k2 := k1.alloc (.cells (madeCells #[.int .i64 0] n) 3)
        have g2 := HMADE.out V1
        have z2 : (V1.alloc (.cells (madeCells #[.int .i64 0] n) 3)).heap.size = Z + 2 := by rw [size_alloc', z1]
        obtain ⟨V2, hV2⟩ : ∃ V2, V2 = V1.alloc (.cells (madeCells #[.int .i64 0] n) 3) := ⟨_, rfl⟩
        rw [← hV2] at b2 k2 g2 z2 ⊢
        clear hV2
        refine anyC_one (i := 2) (by kernel_rfl) rfl rfl (.inr trivial) ?_
        go_simp
        refine (HREP.out V2 Z k2).mono ?_
        rintro e v4 ⟨rfl, hb4, ho4⟩
        have b4 : Below Z v1 v4 := b2.trans (hb4.mono (by omega))
        have hfin := HFIN.out V2.heap.size V1.heap.size _ b4 (by omega) (by omega) (by omega) ho4 (g2.below hb4 (by omega))
        rw [z2, z1] at hfin
        have HF := Lib.hid hfin
        clear hfin hb4 ho4 b4
        go_simp
        refine anyC_one (i := 5) (by kernel_rfl) rfl rfl (.inr trivial) ?_
        go_simp
        refine anyC_one (i := 6) (by kernel_rfl) rfl rfl (.inr trivial) ?_
        go_simp
        refine anyC_end (by kernel_rfl) (.inr trivial) ?_
        go_wp2_with fail
        go_meet
        case rel => exact HF.out
    · go_simp
      have b1 := hbD.alloc (by omega) (.cells (madeCells #[.int .i64 0] n) 3)
      have g1 := HMADE.out vd
      have z1 : (vd.alloc (.cells (madeCells #[.int .i64 0] n) 3)).heap.size = Z + 1 := by rw [size_alloc', hzD]
      obtain ⟨V1, hV1⟩ : ∃ V1, V1 = vd.alloc (.cells (madeCells #[.int .i64 0] n) 3) := ⟨_, rfl⟩
      rw [← hV1] at b1 g1 z1 ⊢
      rw [hzD] at g1
      clear hV1
      refine anyC_one (i := 0) (by kernel_rfl) rfl rfl (.inr trivial) ?_
      go_simp
      have k2 := Blk.new V1 3 #[.int .i64 (-1)]
      rw [z1] at k2
      have b2 := b1.alloc (by omega) (.cells #[.int .i64 (-1)] 3)
      have g2 := g1.below ((Below.refl _ V1).alloc (Nat.le_refl _) (.cells #[.int .i64 (-1)] 3)) (by omega)
      have z2 : (V1.alloc (.cells #[.int .i64 (-1)] 3)).heap.size = Z + 2 := by rw [size_alloc', z1]
      obtain ⟨V2, hV2⟩ : ∃ V2, V2 = V1.alloc (.cells #[.int .i64 (-1)] 3) := ⟨_, rfl⟩
      rw [← hV2] at b2 k2 g2 z2 ⊢
      clear hV2
      refine anyC_one (i := 2) (by kernel_rfl) rfl rfl (.inr trivial) ?_
      go_simp
      refine (HREP.out V2 (Z + 1) k2).mono ?_
      rintro e v4 ⟨rfl, hb4, ho4⟩
      have b4 : Below Z v1 v4 := b2.trans (hb4.mono (by omega))
      have hfin := HFIN.out V2.heap.size Z _ b4 (by omega) (by omega) (by omega) ho4 (g2.below hb4 (by omega))
      rw [z2] at hfin
      have HF := Lib.hid hfin
      clear hfin hb4 ho4 b4
      go_simp
      refine anyC_one (i := 5) (by kernel_rfl) rfl rfl (.inr trivial) ?_
      go_simp
      refine anyC_one (i := 6) (by kernel_rfl) rfl rfl (.inr trivial) ?_
      go_simp
      refine anyC_end (by kernel_rfl) (.inr trivial) ?_
      go_wp2_with fail
      go_meet
      case rel => exact HF.out
  case rest =>
  clear HREP HFIN HBS HK1 HZ hm1
  obtain ⟨gh, gx, rfl, rfl, hgh, hgx, hne, hm⟩ := hcut
  have HM := Lib.hid hm
  clear hm
  go_wp2_with fail
  go_loopw [29] (fun s29 wr => PairO S n cL cR AL AR L R gh gx w s29 wr) (fun s29 _ => n - (intOf s29).toNat)
  case atStart => exact ⟨0, _, _, Nat.zero_le _, rfl, HM.out, AskO.zero n L R⟩
  case round =>
    clear HM
    rename World => wr
    obtain ⟨i, has, nx, hi, rfl, hm, ho⟩ := hrel
    by_cases hin : i < n
    · have HM := Lib.hid hm
      have HA := Lib.hid ho.begin
      clear hm ho
      go_wp2_with fail
      go_loopw [9] (fun s9 wr => PairT S n cL cR AL AR L R gh gx i w s9 wr) (fun _ wr => measW L n gx wr)
      case atStart => exact ⟨i, has, nx, rfl, HM.out, HA.out⟩
      case round =>
        clear HM HA has nx
        rename World => wr
        obtain ⟨t, has, nx, rfl, hm, ha⟩ := hrel
        rcases ha.at_ with rfl | ⟨a, rfl, hai, hfa⟩
        · have HM := Lib.hid hm
          have HO := Lib.hid (ha.out (.inl rfl))
          clear hm ha
          go_wp2_with fail
          go_quiet (fail)
          go_wp2_with fail
          go_roundw
          case rel => exact ⟨i + 1, has, nx, by omega, rfl, HM.out.drewN _, HO.out⟩
          case measure => simp [intOf]; omega
        · have han : a < n := by omega
          have HAI := Lib.hid hai
          clear hai
          have x0 := hm.x.cell (i := a) (by rw [rowF_len]; exact han)
          rw [rowF_at _ _ han] at x0
          have xf := hm.x.frozen a
          have c0 := hm.kw.cell 0
          have hwr := HWI.out.below hm.bel
          obtain ⟨bL, oL, As, cs, rfl, l0, hrA, hlA⟩ := side_at hwr.l hwr.gl (i := a) (by rw [HLG.out.len]; exact han)
          obtain ⟨p, hp⟩ : ∃ p, p = nx a := ⟨_, rfl⟩
          rw [← hp] at x0
          have HNXL := Lib.hid (ha.ask.nxl a han)
          by_cases hpl : p < (ls L a).length
          · obtain ⟨j, hjn, hj⟩ := at_rg HLG.out (a := a) (k := p) hpl
            obtain ⟨bA, oA, rfl, _, e0⟩ := hrA.at1 hpl
            rw [← getD_at _ p hpl 0, hj] at e0
            have HLA8 := HLG.out.l8 a
            obtain ⟨la, hla⟩ : ∃ la, la = (ls L a).length := ⟨_, rfl⟩
            rw [← hla] at l0 hpl HLA8
            have g0 := hm.h.cell (i := j) (by rw [rowF_len]; exact hjn)
            rw [rowF_at _ _ hjn] at g0
            have gf := hm.h.frozen j
            have c1 := hm.kw.cell 1
            obtain ⟨bR, oR, Bs, ds, rfl, hbR, r0, hrB, hlB⟩ := side_at2 hwr.r hwr.gr (i := j) (by rw [HRG.out.len]; exact hjn)
            have HRK : Hid (∀ (x : Int) (W : World), Below S wr W → Calls Try.prog 50 #[.slice Bs (ls R j).length ds, .int .i64 x] W fun e w' => e = .returned (.int .i64 (rankI x (ls R j))) ∧ W = w') := Lib.hid (fun x W hW => wish_rank x Bs _ ds (ls R j) S W rfl hlB (hrB.below hW))
            have hbg : bR ≠ gx := by omega
            have hpl' : nx a < (ls L a).length := by rw [← hp, ← hla]; exact hpl
            have hj' : (ls L a).getD (nx a) 0 = j := by rw [← hp]; exact hj
            obtain ⟨lb, hlb⟩ : ∃ lb, lb = (ls R j).length := ⟨_, rfl⟩
            rw [← hlb] at r0 HRK
            obtain ⟨q, hq⟩ : ∃ q, q = has j := ⟨_, rfl⟩
            rw [← hq] at g0
            have hqc : q = -1 ∨ ∃ b : Nat, q = b := by
              rw [hq]
              rcases ha.ask.own j hjn with h1 | ⟨b, h1, _⟩
              · exact .inl h1
              · exact .inr ⟨b, h1⟩
            have HTAKE : Hid (rankI a (ls R j) < (if 0 ≤ q then rankI q (ls R j) else 8) → AtI n L R (upd has j a) (upd nx a (p + 1)) i q) := Lib.hid (fun h => by
              rw [hq] at h ⊢
              rw [hp]
              exact ha.take HLG.out HRG.out HND.out hin hpl' hj' hjn h)
            have HMISS : Hid (¬ rankI a (ls R j) < (if 0 ≤ q then rankI q (ls R j) else 8) → AtI n L R has (upd nx a (p + 1)) i a) := Lib.hid (fun h => by
              rw [hq] at h
              rw [hp]
              exact ha.miss HLG.out HRG.out HND.out hin hpl' hj' hjn h)
            have HLESS : Hid (measN L n (upd nx a (p + 1)) < measN L n nx) := Lib.hid (by
              rw [hp]
              exact meas_less han hpl')
            have hrka := rank_bounds (x := a) (HRG.out.l8 j)
            have hrkq := rank_bounds (x := q) (HRG.out.l8 j)
            obtain ⟨ka, hka⟩ : ∃ k, k = rankI a (ls R j) := ⟨_, rfl⟩
            obtain ⟨kq, hkq⟩ : ∃ k, k = rankI q (ls R j) := ⟨_, rfl⟩
            have hRA := HRK.out a
            have hRQ := HRK.out q
            rw [← hka] at hrka HTAKE HMISS hRA
            rw [← hkq] at hrkq HTAKE HMISS hRQ
            have HRA := Lib.hid hRA
            have HRQ := Lib.hid hRQ
            have HM := Lib.hid hm
            clear HRK hrB hlB hlb hq hka hkq hRA hRQ hpl' hj' hbR
            have hbW : ∀ (k : Nat) (v : Value), Below S wr ((wr.drewN k).setCell ⟨gx, a, none⟩ v) := fun k v => (below_drewN (Below.refl S wr) k).setCell (p := ⟨gx, a, none⟩) (by show S ≤ gx; omega) v
            have HBW := Lib.hid hbW
            clear hbW
            have HLA := Lib.hid hla
            have HJ := Lib.hid hj
            have hwp : IntKind.i64.wrap ((p : Int) + 1) = ((p + 1 : Nat) : Int) := by rw [IntWalk.i64_in _ (by omega)]; rfl
            clear hm ha hwr hrA hlA hp hla hj HNXL
            have hcast : ((p + 1 : Nat) : Int) = (p : Int) + 1 := by omega
            have HPUT : Hid (∀ k, AskM S n cL cR (some ⟨bL, oL, none⟩) (some ⟨bR, oR, none⟩) gh gx has (upd nx a (p + 1)) w ((wr.drewN k).setCell ⟨gx, a, none⟩ (.int .i64 ((p : Int) + 1)))) := Lib.hid (fun k => by
              have := (HM.out.drewN k).putx hgx hne a (p + 1)
              rwa [hcast] at this)
            have HMEA : Hid (measW L n gx wr = measN L n nx) := Lib.hid (meas_is HM.out.x)
            clear hcast
            rcases hqc with rfl | ⟨b, rfl⟩
            · rw [if_neg (by omega)] at HTAKE HMISS
              by_cases hlt : ka < 8
              · have HAT := Lib.hid (HTAKE.out hlt)
                clear HTAKE HMISS
                go_wp2_with fail
                go_quiet (fail)
                go_wp2_with fail
                go_quiet (fail)
                go_wp2_with fail
                refine (HRA.out _ (HBW.out _ _)).mono ?_
                rintro e w' ⟨rfl, rfl⟩
                go_wp2_with fail
                go_roundw
                case rel => exact ⟨-1, upd has j a, upd nx a (p + 1), rfl, (HPUT.out _).puth hgh hne j a, HAT.out⟩
                case measure =>
                  rw [HMEA.out, meas_is ((HPUT.out _).puth hgh hne j a).x]
                  exact HLESS.out
              · have HAT := Lib.hid (HMISS.out hlt)
                clear HTAKE HMISS
                go_wp2_with fail
                go_quiet (fail)
                go_wp2_with fail
                go_quiet (fail)
                go_wp2_with fail
                refine (HRA.out _ (HBW.out _ _)).mono ?_
                rintro e w' ⟨rfl, rfl⟩
                go_wp2_with fail
                go_roundw
                case rel => exact ⟨a, has, upd nx a (p + 1), rfl, HPUT.out _, HAT.out⟩
                case measure =>
                  rw [HMEA.out, meas_is (HPUT.out _).x]
                  exact HLESS.out
            · rw [if_pos (by omega)] at HTAKE HMISS
              by_cases hlt : ka < kq
              · have HAT := Lib.hid (HTAKE.out hlt)
                clear HTAKE HMISS
                go_wp2_with fail
                go_quiet (fail)
                go_wp2_with fail
                go_quiet (fail)
                go_wp2_with fail
                refine region_plain 99 11 (fun w' => ∃ k, w' = ((wr.drewN k).setCell ⟨gx, a, none⟩ (.int .i64 ((p : Int) + 1))).drew) (by kernel_rfl) rfl ?_
                refine anyC_reads (by kernel_rfl) [0, 1, 2, 3, 4, 5, 6, 7, 8] ?opg1 ?ohg1 2 _ _ _ (by kernel_rfl) ?okg1
                case ohg1 => (simp only [List.filterMap_cons, List.filterMap_nil, List.getElem?_toArray, List.getElem?_cons_zero, List.getElem?_cons_succ]; try rfl)
                repeat (
                  refine readC_step (v := ?_) rfl (fun w' hw' => ?_) ?_
                  rotate_left
                  focus (obtain ⟨k, rfl⟩ := hw'; go_simp; try with_reducible rfl)
                  go_simp)
                refine readC_nil ?_
                refine anyC_one (i := 9) (by kernel_rfl) rfl rfl (.inr ⟨_, rfl⟩) ?_
                go_simp
                refine (HRQ.out _ (HBW.out _ _).drew).mono ?_
                rintro e w' ⟨rfl, rfl⟩
                go_simp
                refine anyC_one (i := 10) (by kernel_rfl) rfl rfl (.inr ⟨_, rfl⟩) ?_
                go_simp
                refine anyC_end (by kernel_rfl) (.inr ⟨_, rfl⟩) ?_
                go_wp2_with fail
                refine (HRA.out _ (HBW.out _ _).drew).mono ?_
                rintro e w' ⟨rfl, rfl⟩
                go_wp2_with fail
                go_roundw
                case rel => exact ⟨b, upd has j a, upd nx a (p + 1), rfl, (HPUT.out _).drew.puth hgh hne j a, HAT.out⟩
                case measure =>
                  rw [HMEA.out, meas_is ((HPUT.out _).puth hgh hne j a).drew.x]
                  exact HLESS.out
              · have HAT := Lib.hid (HMISS.out hlt)
                clear HTAKE HMISS
                go_wp2_with fail
                go_quiet (fail)
                go_wp2_with fail
                go_quiet (fail)
                go_wp2_with fail
                refine region_plain 99 11 (fun w' => ∃ k, w' = ((wr.drewN k).setCell ⟨gx, a, none⟩ (.int .i64 ((p : Int) + 1))).drew) (by kernel_rfl) rfl ?_
                refine anyC_reads (by kernel_rfl) [0, 1, 2, 3, 4, 5, 6, 7, 8] ?opg2 ?ohg2 2 _ _ _ (by kernel_rfl) ?okg2
                case ohg2 => (simp only [List.filterMap_cons, List.filterMap_nil, List.getElem?_toArray, List.getElem?_cons_zero, List.getElem?_cons_succ]; try rfl)
                repeat (
                  refine readC_step (v := ?_) rfl (fun w' hw' => ?_) ?_
                  rotate_left
                  focus (obtain ⟨k, rfl⟩ := hw'; go_simp; try with_reducible rfl)
                  go_simp)
                refine readC_nil ?_
                refine anyC_one (i := 9) (by kernel_rfl) rfl rfl (.inr ⟨_, rfl⟩) ?_
                go_simp
                refine (HRQ.out _ (HBW.out _ _).drew).mono ?_
                rintro e w' ⟨rfl, rfl⟩
                go_simp
                refine anyC_one (i := 10) (by kernel_rfl) rfl rfl (.inr ⟨_, rfl⟩) ?_
                go_simp
                refine anyC_end (by kernel_rfl) (.inr ⟨_, rfl⟩) ?_
                go_wp2_with fail
                refine (HRA.out _ (HBW.out _ _).drew).mono ?_
                rintro e w' ⟨rfl, rfl⟩
                go_wp2_with fail
                go_roundw
                case rel => exact ⟨a, has, upd nx a (p + 1), rfl, (HPUT.out _).drew, HAT.out⟩
                case measure =>
                  rw [HMEA.out, meas_is (HPUT.out _).drew.x]
                  exact HLESS.out
          · have HM := Lib.hid hm
            have HO := Lib.hid (ha.out (.inr ⟨a, rfl, by have := HNXL.out; omega⟩))
            have hdl : decide ((p : Int) < ((ls L a).length : Int)) = false := decide_eq_false (by omega)
            obtain ⟨la, hla⟩ : ∃ la, la = (ls L a).length := ⟨_, rfl⟩
            rw [← hla] at l0 hdl hpl
            clear hm ha hwr hrA hlA hp hla
            go_wp2_with fail
            go_quiet (fail)
            go_wp2_with fail
            go_roundw
            case rel => exact ⟨i + 1, has, nx, by omega, rfl, HM.out.drewN _, HO.out⟩
            case measure => simp [intOf]; omega
    · obtain rfl : i = n := by omega
      have hge := ho.done
      have hg := pair_best hge HLG.out HRG.out HND.out
      have hlen : (rowF i has).length = i := rowF_len i has
      have hown : ∀ k, k < i → has k = -1 ∨ ∃ b : Nat, has k = b ∧ b < i := fun k hk => by
        rcases ho.ask.own k hk with h1 | ⟨b, h1, h2, _⟩
        · exact .inl h1
        · exact .inr ⟨b, h1, h2⟩
      have hsz := hm.h.lt
      have hk := Blk.new wr 3 #[.int .i64 (-1)]
      have hA : AskM S i cL cR AL AR gh gx has nx w (wr.alloc (.cells #[.int .i64 (-1)] 3)) := by
        have hbx := (Below.refl wr.heap.size wr).alloc (Nat.le_refl _) (.cells #[.int .i64 (-1)] 3)
        exact ⟨hm.bel.trans (hbx.mono (by have := hm.kw.lt; omega)), hm.kw.below hbx hm.kw.lt, hm.h.below hbx hm.h.lt, hm.x.below hbx hm.x.lt⟩
      have HREP := Lib.hid (Repeat_ints (-1) (some ⟨wr.heap.size, 0, none⟩) 1 i (wr.alloc (.cells #[.int .i64 (-1)] 3)).heap.size (wr.alloc (.cells #[.int .i64 (-1)] 3)) (by omega) (els_of_blk hk 1 icell (fun _ => rfl) [(-1 : Int)] rfl))
      have HA := Lib.hid hA
      have HG := Lib.hid hg
      have HOWN := Lib.hid hown
      clear hm ho hge hg hown hA hk
      go_wp2_with fail
      refine HREP.out.mono ?_
      clear HREP
      rintro e v2 ⟨rfl, hb2, how2⟩
      have hg2 := GlB.of_own how2
      have hA2 : AskM S i cL cR AL AR gh gx has nx w v2 := ⟨HA.out.bel.trans (hb2.mono (by have := HA.out.kw.lt; omega)), HA.out.kw.below hb2 HA.out.kw.lt, HA.out.h.below hb2 HA.out.h.lt, HA.out.x.below hb2 HA.out.x.lt⟩
      obtain ⟨gl, hgl⟩ : ∃ gl, gl = (wr.alloc (.cells #[.int .i64 (-1)] 3)).heap.size := ⟨_, rfl⟩
      rw [← hgl] at hg2 ⊢
      have hghl : gh < gl := by rw [hgl]; exact HA.out.h.lt
      have hbw2 := hA2.bel
      have hh2 := hA2.h
      have HB2 := Lib.hid hbw2
      have HH2 := Lib.hid hh2
      have HG2 : Hid (GlB v2 gl (rowF i fun a => gAt has a 0)) := Lib.hid (by
        have := rowF_same i (-1)
        rw [show (fun a => gAt has a 0) = fun _ => -1 from rfl, this]
        exact hg2)
      clear hb2 how2 hg2 hA2 hgl HA hbw2 hh2
      go_wp2_with fail
      go_loopw [103] (fun s103 wq => ∃ k : Nat, k ≤ i ∧ s103 = .int .i64 k ∧ Below S w wq ∧ GlB wq gh (rowF i has) ∧ GlB wq gl (rowF i fun a => gAt has a k)) (fun s103 _ => i - (intOf s103).toNat)
      case atStart => exact ⟨0, Nat.zero_le _, rfl, HB2.out, HH2.out, HG2.out⟩
      case round =>
        clear HB2 HH2 HG2
        rename World => wq
        obtain ⟨k, hk, rfl, hb, hh, hg⟩ := hrel
        by_cases hlt : k < i
        · have g0 := hh.cell (i := k) (by rw [rowF_len]; exact hlt)
          rw [rowF_at _ _ hlt] at g0
          have hc := HOWN.out k hlt
          obtain ⟨q, hq⟩ : ∃ q, q = has k := ⟨_, rfl⟩
          rw [← hq] at g0 hc
          rcases hc with rfl | ⟨b, rfl, hbn⟩
          · have HNG := Lib.hid (hg)
            rw [gAt_skip hq.symm] at HNG
            have HB := Lib.hid hb
            have HH := Lib.hid hh
            clear hb hh hg hq
            go_wp2_with fail
            go_roundw
            case rel => exact ⟨k + 1, by omega, by go_num, HB.out, HH.out, HNG.out⟩
            case measure => simp [intOf]; omega
          · have hput := hg.put b k
            rw [gAt_step hq.symm] at hput
            have gf := hg.frozen b
            have hgc := hg.cell (i := b) (by rw [rowF_len]; exact hbn)
            have HNG := Lib.hid hput
            have HB := Lib.hid (hb.setCell (p := ⟨gl, b, none⟩) (by show S ≤ gl; omega) (.int .i64 (k : Int)))
            have HH := Lib.hid (hh.far (p := ⟨gl, b, none⟩) (by show gh ≠ gl; omega) (.int .i64 (k : Int)))
            clear hb hh hg hq hput
            go_wp2_with fail
            go_roundw
            case rel => exact ⟨k + 1, by omega, by go_num, HB.out, HH.out, HNG.out⟩
            case measure => simp [intOf]; omega
        · obtain rfl : k = i := by omega
          have HB := Lib.hid hb
          have HGG := Lib.hid hg
          clear hb hh hg
          go_wp2_with fail
          go_ret2
          exact ⟨gl, rfl, by rw [← HS.out]; exact HB.out, by rw [← HG.out]; exact HGG.out⟩
end Go.Proofs.Ytodbhgbgeiailaa
