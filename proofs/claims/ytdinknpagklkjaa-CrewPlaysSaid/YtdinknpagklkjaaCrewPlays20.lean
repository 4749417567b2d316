/- A task gets a worker: the reference's search walked. Conditions: workers and tasks read as lists; the places and who was asked are rows of their own. -/
import Derived.Test.YtdinknpagklkjaaCrewPlays19
import Derived.Test.YtdinknpagklkjaaCrewPlays4
import Derived.Test.YtdinknpagklkjaaCrewPlays14
import Derived.BigQuiet
namespace Go.Proofs.Ytdinknpagklkjaa
open Go.RowKit
attribute [local go_sem] Oper.semAt_some

abbrev bocell (b : Bool) : List Value := [.bool b]
theorem drop_range {n j : Nat} (h : j < n) : (List.range n).drop j = j :: (List.range n).drop (j + 1) := by
  rw [List.drop_eq_getElem_cons (by simpa using h)]
  simp
/-- Rows that lie in blocks of different types. -/
theorem Own.otherT {α β : Type} {w w' : World} {B B' c c' cap cap' : Nat} {e e' : TypeId} {f : α → List Value} {g : β → List Value} {A A' : Option Addr} {l : List α} {m : List β} (h : Own w B e c f A cap l) (h' : Own w B' e' c' g A' cap' m) (he : e ≠ e') (hg : w.grownBy w' (blkOf A')) : Own w' B e c f A cap l := by
  refine h.kept hg ?_
  cases hA : blkOf A with
  | none => exact .inl rfl
  | some q =>
    refine .inr fun e2 => ?_
    obtain ⟨cur, hcur⟩ := own_cellsAt h hA
    exact own_far_blk h' hcur (fun e3 => he e3.symm) e2.symm
theorem cntA_bound (l : List Int) (j : Nat) : ∀ q : Nat, 0 ≤ cntA l q j ∧ cntA l q j ≤ q
  | 0 => ⟨Int.le_refl _, Int.le_refl _⟩
  | q + 1 => by
    have := cntA_bound l j q
    have h : cntA l (q + 1) j = cntA l q j + ind (la l q == (j : Int)) := rfl
    rw [h]
    cases (la l q == (j : Int))
    · rw [ind_f]; omega
    · rw [ind_t]; omega
theorem qa_set_mono {a : List Bool} {j q : Nat} (h : qa a q = true) : qa (a.set j true) q = true := by
  rcases Nat.lt_or_ge j a.length with hj | hj
  · rw [qa_set hj]
    split
    · rfl
    · exact h
  · rw [List.set_eq_of_length_le hj]
    exact h
def KeepR (rec : Nat → List Bool → SRes) (l : List Int) : Prop := ∀ i a, (rec i a).2.2.length = a.length ∧ (∀ q, qa a q = true → qa (rec i a).2.2 q = true) ∧ ((rec i a).1 = false → (rec i a).2.1 = l) ∧ (rec i a).2.1.length = l.length
theorem seatK_keep {rec : Nat → List Bool → SRes} {l : List Int} (h : KeepR rec l) (i j : Nat) : ∀ (ks : List Nat) (a : List Bool), (seatK rec l i j ks a).2.2.length = a.length ∧ (∀ q, qa a q = true → qa (seatK rec l i j ks a).2.2 q = true) ∧ ((seatK rec l i j ks a).1 = false → (seatK rec l i j ks a).2.1 = l) ∧ (seatK rec l i j ks a).2.1.length = l.length
  | [], a => ⟨rfl, fun _ h => h, fun _ => rfl, rfl⟩
  | k :: ks, a => by
    obtain ⟨h1, h2, h3, h4⟩ := h k a
    obtain ⟨g1, g2, g3, g4⟩ := seatK_keep h i j ks (rec k a).2.2
    obtain ⟨k1, k2, k3, k4⟩ := seatK_keep h i j ks a
    unfold seatK
    split
    · split
      · exact ⟨h1, h2, fun h => (by cases h), by rw [List.length_set]; exact h4⟩
      · exact ⟨by rw [g1, h1], fun q hq => g2 q (h2 q hq), g3, g4⟩
    · exact ⟨k1, k2, k3, k4⟩
theorem seatJ_keep {rec : Nat → List Bool → SRes} {l : List Int} (h : KeepR rec l) (ws : List Wk) (t : BitVec 32) (room : List Int) (M i : Nat) : ∀ (js : List Nat) (a : List Bool), (seatJ ws t room M rec l i js a).2.2.length = a.length ∧ (∀ q, qa a q = true → qa (seatJ ws t room M rec l i js a).2.2 q = true) ∧ ((seatJ ws t room M rec l i js a).1 = false → (seatJ ws t room M rec l i js a).2.1 = l) ∧ (seatJ ws t room M rec l i js a).2.1.length = l.length
  | [], a => ⟨rfl, fun _ h => h, fun _ => rfl, rfl⟩
  | j :: js, a => by
    obtain ⟨h1, h2, h3, h4⟩ := seatK_keep h i j (List.range M) (a.set j true)
    obtain ⟨g1, g2, g3, g4⟩ := seatJ_keep h ws t room M i js a
    obtain ⟨k1, k2, k3, k4⟩ := seatJ_keep h ws t room M i js (seatK rec l i j (List.range M) (a.set j true)).2.2
    unfold seatJ
    split
    · exact ⟨g1, g2, g3, g4⟩
    split
    · exact ⟨List.length_set, fun q hq => qa_set_mono hq, fun h => (by cases h), List.length_set⟩
    split
    · exact ⟨by rw [h1, List.length_set], fun q hq => h2 q (qa_set_mono hq), h3, h4⟩
    · exact ⟨by rw [k1, h1, List.length_set], fun q hq => k2 q (h2 q (qa_set_mono hq)), k3, k4⟩
theorem seatF_keep (ws : List Wk) (ts : List (BitVec 32)) (room l : List Int) : ∀ f, KeepR (seatF ws ts room l f) l
  | 0 => fun i a => ⟨rfl, fun _ h => h, fun _ => rfl, rfl⟩
  | f + 1 => fun i a => by
    unfold seatF
    exact seatJ_keep (seatF_keep ws ts room l f) _ _ _ _ _ _ _
section
variable (A B Al Aa : Option Addr) (W cA M cB cl ca lo : Nat) (ws : List Wk) (ts : List (BitVec 32)) (l : List Int)
def SeatC (f : Nat) : Prop := ∀ (i : Nat) (asked : List Bool) (w : World), i < M → asked.length = W → un W asked < f → lo ≤ w.heap.size → Els w lo 2 wkcell A ws → Els w lo 1 wcell B ts → Own w lo 3 1 icell Al cl l → Own w lo 4 1 bocell Aa ca asked →
  Calls Try.prog 91 #[.slice A W cA, .slice B M cB, .slice Al M cl, .int .i64 i, .slice Aa W ca] w fun e w' => e = .returned (.bool (seatF ws ts (ws.map (·.1)) l f i asked).1) ∧ Below lo w w' ∧ Own w' lo 3 1 icell Al cl (seatF ws ts (ws.map (·.1)) l f i asked).2.1 ∧ Own w' lo 4 1 bocell Aa ca (seatF ws ts (ws.map (·.1)) l f i asked).2.2
/-- While workers are asked. -/
def SeatI (w : World) (f i : Nat) (asked : List Bool) (s11 : Value) (wr : World) : Prop :=
  ∃ (j : Nat) (aj : List Bool), j ≤ W ∧ s11 = .int .i64 j ∧ Below lo w wr ∧ Own wr lo 3 1 icell Al cl l ∧ Own wr lo 4 1 bocell Aa ca aj ∧ aj.length = W ∧ un W aj < (f + 1 : Nat) ∧ seatJ ws (lw ts i) (ws.map (·.1)) ts.length (seatF ws ts (ws.map (·.1)) l f) l i ((List.range W).drop j) aj = seatF ws ts (ws.map (·.1)) l (f + 1) i asked
/-- While those are asked who are with a worker. -/
def SeatL (w : World) (f i j : Nat) (asked : List Bool) (s15 : Value) (wr : World) : Prop :=
  ∃ (k : Nat) (aj : List Bool), k ≤ M ∧ s15 = .int .i64 k ∧ Below lo w wr ∧ Own wr lo 3 1 icell Al cl l ∧ Own wr lo 4 1 bocell Aa ca aj ∧ aj.length = W ∧ un W aj < (f : Nat) ∧ (if (seatK (seatF ws ts (ws.map (·.1)) l f) l i j ((List.range M).drop k) aj).1 = true then seatK (seatF ws ts (ws.map (·.1)) l f) l i j ((List.range M).drop k) aj else seatJ ws (lw ts i) (ws.map (·.1)) ts.length (seatF ws ts (ws.map (·.1)) l f) l i ((List.range W).drop (j + 1)) (seatK (seatF ws ts (ws.map (·.1)) l f) l i j ((List.range M).drop k) aj).2.2) = seatF ws ts (ws.map (·.1)) l (f + 1) i asked
set_option maxRecDepth 100000 in
set_option maxHeartbeats 2000000 in
theorem seat_step (f : Nat) (hW : ws.length = W) (hW6 : W ≤ 6) (hM : ts.length = M) (hM12 : M ≤ 12) (hl : l.length = M) (hroom : ∀ k ∈ ws, 0 ≤ k.1 ∧ k.1 ≤ 12) (hrec : SeatC A B Al Aa W cA M cB cl ca lo ws ts l f) : SeatC A B Al Aa W cA M cB cl ca lo ws ts l (f + 1) := by
  intro i asked w hi hal hun hlo hws hts hol hoa
  have HREC := Lib.hid hrec
  have HW := Lib.hid hW
  have HM := Lib.hid hM
  have HL := Lib.hid hl
  have HWS := Lib.hid hws
  have HTS := Lib.hid hts
  have HR := Lib.hid hroom
  have hst : SeatI Al Aa W cl ca lo ws ts l w f i asked (.int .i64 ((0 : Nat) : Int)) w := ⟨0, asked, Nat.zero_le _, rfl, Below.refl _ _, hol, hoa, hal, hun, by rw [List.drop_zero, seatF, hW]⟩
  have HST := Lib.hid hst
  obtain ⟨res, hres⟩ : ∃ r, r = seatF ws ts (ws.map (·.1)) l (f + 1) i asked := ⟨_, rfl⟩
  rw [← hres]
  have HRES := Lib.hid hres
  clear hrec hW hM hl hws hts hroom hol hoa hst hres hun hal
  go_enter Try.func91, Try.ntmps91
  go_wp2_with fail
  go_loopw [11] (fun s11 wr => SeatI Al Aa W cl ca lo ws ts l w f i asked s11 wr) (fun s11 _ => W - (intOf s11).toNat)
  case atStart => exact HST.out
  case round =>
    clear HST
    rename World => wr
    obtain ⟨j, aj, hj, rfl, hb, hol, hoa, hal, hun, heq⟩ := hrel
    rw [← HRES.out] at heq
    by_cases hjW : j < W
    · have hjl : j < ws.length := by rw [HW.out]; exact hjW
      have hja : j < aj.length := by rw [hal]; exact hjW
      rw [drop_range hjW, seatJ] at heq
      obtain ⟨ga, hAa, hgal, hgaz, x0, xf⟩ := hoa.cell1 (f := fun b : Bool => .bool b) hja
      rw [← getD_at aj j hja false] at x0
      have hlz : lo ≤ wr.heap.size := Nat.le_trans hlo hb.size
      rcases Bool.eq_false_or_eq_true (qa aj j) with hasked | hasked
      · rw [if_pos (.inl hasked)] at heq
        have hasked : aj.getD j false = true := hasked
        rw [hasked] at x0
        have HB := Lib.hid hb
        have HOL := Lib.hid hol
        have HOA := Lib.hid hoa
        have HEQ := Lib.hid heq
        have HAL := Lib.hid hal
        have HUN := Lib.hid hun
        subst hAa
        clear hb hol hoa heq hal hun hasked hja
        go_wp2_with fail
        refine region_plain 99 16 (fun w' => w' = wr.drew) (by kernel_rfl) rfl ?_
        refine anyC_reads (by kernel_rfl) [0, 1, 2, 3, 4, 5, 6, 7, 8, 9, 10, 11, 12, 13, 14, 15] ?opa ?oha 0 _ _ _ (by kernel_rfl) ?oka
        case oha => (simp only [List.filterMap_cons, List.filterMap_nil, List.getElem?_toArray, List.getElem?_cons_zero, List.getElem?_cons_succ]; try rfl)
        repeat (first
          | (refine readC_step (v := ?_) rfl (fun w' hw' => ?_) ?_
             rotate_left
             focus (subst hw'; go_simp; try with_reducible rfl)
             go_simp)
          | (refine readC_skip rfl ?_; go_simp))
        refine readC_nil ?_
        refine anyC_end (by kernel_rfl) (.inr rfl) ?_
        go_wp2_with fail
        go_roundw
        case rel => exact ⟨j + 1, aj, by omega, by go_num, HB.out.drew, HOL.out.drew, HOA.out.drew, HAL.out, HUN.out, by rw [HEQ.out]; exact HRES.out⟩
        case measure => simp [intOf]; omega
      · have hasked' : aj.getD j false = false := hasked
        rw [hasked'] at x0
        have hit : i < ts.length := by rw [HM.out]; exact hi
        obtain ⟨bw, ow, hAw, _, g0, g1⟩ := (HWS.out.below hb).at2 (f := fun a : Wk => .int .i64 a.1) (g := fun a : Wk => .int .u32 (wN a.2)) hjl
        obtain ⟨bt, ot, hBt, _, t0⟩ := (HTS.out.below hb).at1 (f := fun x : BitVec 32 => .int .u32 (wN x)) hit
        rw [← getD_at ws j hjl (0, w0)] at g0 g1
        rw [← getD_at ts i hit w0] at t0
        have e1 : ws.getD j (0, w0) = wk ws j := rfl
        have e2 : ts.getD i w0 = lw ts i := rfl
        rw [e1] at g0 g1
        rw [e2] at t0
        have hkr := HR.out (wk ws j) (by rw [← e1, getD_at ws j hjl]; exact List.getElem_mem hjl)
        have hrm : (ws.map (·.1)).getD j 0 = (wk ws j).1 := by
          rw [getD_at _ j (by simpa using hjl), List.getElem_map, ← e1, getD_at ws j hjl]
        rw [hrm] at heq
        obtain ⟨kk, hkk⟩ : ∃ kk, kk = wk ws j := ⟨_, rfl⟩
        obtain ⟨tt, htt⟩ : ∃ tt, tt = lw ts i := ⟨_, rfl⟩
        rw [← hkk] at g0 g1 heq hkr
        rw [← htt] at t0 heq
        have HMAY := Lib.hid (ref_May kk tt wr.drew)
        have HB := Lib.hid hb
        have HOL := Lib.hid hol
        have HOA := Lib.hid hoa
        have HAL := Lib.hid hal
        have HUN := Lib.hid hun
        have HAS := Lib.hid hasked
        have HKK := Lib.hid hkk
        have HTT := Lib.hid htt
        subst hAa hAw hBt
        rcases Bool.eq_false_or_eq_true (mayW tt kk) with hmay | hmay
        · rw [if_neg (show ¬(qa aj j = true ∨ mayW tt kk = false) by rw [hasked, hmay]; simp)] at heq
          rw [hmay] at HMAY
          have hunj := un_set hjW hal hasked
          have hal2 : (aj.set j true).length = W := by rw [List.length_set]; exact hal
          have hun2 : un W (aj.set j true) < (f : Nat) := by push_cast at hun; omega
          have HAL2 := Lib.hid hal2
          have HUN2 := Lib.hid hun2
          have HEQ := Lib.hid heq
          have HJA := Lib.hid hja
          clear hb hol hoa heq hal hun hasked hasked' hja e1 e2 hkk htt hrm hmay hunj hal2 hun2
          go_wp2_with fail
          refine region_plain 13 16 (fun w' => w' = wr.drew) (by kernel_rfl) rfl ?_
          refine anyC_reads (by kernel_rfl) [0, 1, 2, 3, 4, 5, 6, 7, 8, 9, 10, 11, 12] ?opc ?ohc 3 _ _ _ (by kernel_rfl) ?okc
          case ohc => (simp only [List.filterMap_cons, List.filterMap_nil, List.getElem?_toArray, List.getElem?_cons_zero, List.getElem?_cons_succ]; try rfl)
          repeat (
            refine readC_step (v := ?_) rfl (fun w' hw' => ?_) ?_
            rotate_left
            focus (subst hw'; go_simp; try with_reducible rfl)
            go_simp)
          refine readC_nil ?_
          refine anyC_one (i := 13) (by kernel_rfl) rfl rfl (.inr rfl) ?_
          go_simp
          refine HMAY.out.mono ?_
          clear HMAY
          rintro e w2 ⟨rfl, hb2⟩
          have hol2 := HOL.out.drew.below hb2 (Nat.le_refl _)
          have hoa2 := HOA.out.drew.below hb2 (Nat.le_refl _)
          obtain ⟨ga', hga', hgal', _, y0, yf⟩ := hoa2.cell1 (f := fun b : Bool => .bool b) HJA.out
          have : ga = ga' := by simpa using hga'
          subst this
          have hoa3 := hoa2.put1 (k := j) (x := true) HJA.out
          have hol3 := hol2.otherT hoa2 (by decide) (gb_setCell w2 ga j (.bool true))
          have hb3 := (HB.out.drew.trans (hb2.mono hlz)).setCell (p := ⟨ga, j, none⟩) hgal (.bool true)
          obtain ⟨W3, hW3⟩ : ∃ W3, W3 = w2.setCell ⟨ga, j, none⟩ (.bool true) := ⟨_, rfl⟩
          rw [← hW3] at hoa3 hol3 hb3
          generalize aj[j]'HJA.out = y at y0
          have HOL3 := Lib.hid hol3
          have HOA3 := Lib.hid hoa3
          have HB3 := Lib.hid hb3
          have HW3 := Lib.hid hW3
          clear hb2 hol2 hoa2 hol3 hoa3 hb3 hW3
          refine anyC_one (i := 14) (by kernel_rfl) rfl rfl (.inl rfl) ?_
          go_simp
          refine anyC_one (i := 15) (by kernel_rfl) rfl rfl (.inl rfl) ?_
          go_simp
          refine anyC_end (by kernel_rfl) (.inl rfl) ?_
          go_wp2_with fail
          rw [← HW3.out]
          clear y0 yf x0 xf g0 g1 t0
          go_loop [43, 12] (fun s43 s12 => ∃ q : Nat, q ≤ M ∧ s43 = .int .i64 q ∧ s12 = .int .i64 (cntA l q j)) (fun s43 _ => M - (intOf s43).toNat)
          case atStart => exact ⟨0, Nat.zero_le _, rfl, rfl⟩
          case round =>
            obtain ⟨q, hq, rfl, rfl⟩ := hrel
            have hc0 : 0 ≤ cntA l q j ∧ cntA l q j ≤ q := cntA_bound l j q
            by_cases hqM : q < M
            · have hql : q < l.length := by rw [HL.out]; exact hqM
              obtain ⟨gl, hAl, hgl, _, z0, _⟩ := HOL3.out.cell1 (f := fun x : Int => .int .i64 x) hql
              rw [← getD_at l q hql 0] at z0
              have hcs : cntA l (q + 1) j = cntA l q j + ind (la l q == (j : Int)) := rfl
              have e3 : l.getD q 0 = la l q := rfl
              rw [e3] at z0
              obtain ⟨x, hx⟩ : ∃ x, x = la l q := ⟨_, rfl⟩
              rw [← hx] at z0 hcs
              obtain ⟨v, hv⟩ : ∃ v, v = cntA l q j := ⟨_, rfl⟩
              rw [← hv] at hcs hc0 ⊢
              have HCS := Lib.hid hcs
              have hwv : IntKind.i64.wrap (v + 1) = v + 1 := IntWalk.i64_in _ (by omega)
              subst hAl
              clear hcs e3 hx hv
              by_cases hxj : x = (j : Int)
              · have hd : (x == (j : Int)) = true := by simpa using hxj
                have hcs2 := HCS.out
                rw [hd, ind_t] at hcs2
                have HC2 := Lib.hid hcs2
                clear hxj hcs2
                go_wp2_with fail
                go_round
                case rel => exact ⟨q + 1, by omega, by go_num, by rw [HC2.out]⟩
                case measure => simp [intOf]; omega
              · have hd : (x == (j : Int)) = false := by simpa using hxj
                have hcs2 := HCS.out
                rw [hd, ind_f, Int.add_zero] at hcs2
                have HC2 := Lib.hid hcs2
                clear hxj hcs2
                go_wp2_with fail
                go_round
                case rel => exact ⟨q + 1, by omega, by go_num, by rw [HC2.out]⟩
                case measure => simp [intOf]; omega
            · obtain rfl : q = M := by omega
              have hiL : i < l.length := by rw [HL.out]; exact hi
              obtain ⟨bw', ow', hAw, _, g0, _⟩ := (HWS.out.below HB3.out).at2 (f := fun a : Wk => .int .i64 a.1) (g := fun a : Wk => .int .u32 (wN a.2)) hjl
              simp only [Option.some.injEq, Addr.mk.injEq] at hAw
              obtain ⟨rfl, rfl, -⟩ := hAw
              have e1 : ws[j].1 = kk.1 := by rw [HKK.out]; show _ = (ws.getD j (0, w0)).1; rw [getD_at ws j hjl]
              rw [e1] at g0
              obtain ⟨rm, hrm⟩ : ∃ r, r = kk.1 := ⟨_, rfl⟩
              rw [← hrm] at g0
              have HRM := Lib.hid hrm
              obtain ⟨cv, hcv⟩ : ∃ v, v = cntA l q j := ⟨_, rfl⟩
              rw [← hcv] at hc0 ⊢
              have hcv' : cntA l ts.length j = cv := by rw [HM.out]; exact hcv.symm
              have HCV := Lib.hid hcv'
              clear e1 hrm hcv hcv'
              have hz3 : lo ≤ W3.heap.size := Nat.le_trans hlo HB3.out.size
              by_cases hroom : cv < rm
              · have heq2 := HEQ.out
                rw [if_pos (by rw [HCV.out, ← HRM.out]; exact hroom)] at heq2
                obtain ⟨gl, hAl, hgl, _, z0, zf⟩ := HOL3.out.cell1 (f := fun x : Int => .int .i64 x) hiL
                subst hAl
                have hput := HOL3.out.put1 (k := i) (x := (j : Int)) hiL
                have hoa4 := HOA3.out.otherT HOL3.out (by decide) (gb_setCell W3 gl i (.int .i64 (j : Int)))
                have hb4 := HB3.out.setCell (p := ⟨gl, i, none⟩) hgl (.int .i64 (j : Int))
                have HEQ2 := Lib.hid heq2
                have HPUT := Lib.hid hput
                have HOA4 := Lib.hid hoa4
                have HB4 := Lib.hid hb4
                generalize l[i] = zz at z0
                clear heq2 hput hoa4 hb4
                go_wp2_with fail
                go_ret
                rw [← HEQ2.out]
                exact ⟨rfl, HB4.out, HPUT.out, HOA4.out⟩
              · have heq2 := HEQ.out
                rw [if_neg (by rw [HCV.out, ← HRM.out]; exact hroom)] at heq2
                have hst : SeatL Al (some ⟨ga, 0, none⟩) W q cl ca lo ws ts l w f i j asked (.int .i64 ((0 : Nat) : Int)) W3 := by
                  refine ⟨0, aj.set j true, Nat.zero_le _, rfl, HB3.out, HOL3.out, HOA3.out, HAL2.out, HUN2.out, ?_⟩
                  rw [List.drop_zero, ← HRES.out, ← heq2, HM.out, HTT.out]
                have HST2 := Lib.hid hst
                clear heq2 hst
                go_wp2_with fail
                clear g0
                go_loopw [15] (fun s15 wq => SeatL Al (some ⟨ga, 0, none⟩) W q cl ca lo ws ts l w f i j asked s15 wq) (fun s15 _ => q - (intOf s15).toNat)
                case atStart => exact HST2.out
                case round =>
                  clear HST2 HOL3 HOA3 HB3
                  rename World => wq
                  obtain ⟨k, ak, hk, rfl, hb, hol, hoa, hal, hun, heq⟩ := hrel
                  rw [← HRES.out] at heq
                  have hlq : lo ≤ wq.heap.size := Nat.le_trans hlo hb.size
                  by_cases hkM : k < q
                  · have hkl : k < l.length := by rw [HL.out]; exact hkM
                    rw [drop_range hkM, seatK] at heq
                    obtain ⟨gl, hAl, hgl, _, z0, _⟩ := hol.cell1 (f := fun x : Int => .int .i64 x) hkl
                    rw [← getD_at l k hkl 0] at z0
                    have e3 : l.getD k 0 = la l k := rfl
                    rw [e3] at z0
                    obtain ⟨x, hx⟩ : ∃ x, x = la l k := ⟨_, rfl⟩
                    rw [← hx] at z0 heq
                    have HB := Lib.hid hb
                    have HOL := Lib.hid hol
                    have HOA := Lib.hid hoa
                    have HAK := Lib.hid hal
                    have HUNK := Lib.hid hun
                    have HCALL := Lib.hid (HREC.out k ak wq hkM hal hun hlq (HWS.out.below hb) (HTS.out.below hb) hol hoa)
                    have hkeep := seatF_keep ws ts (ws.map (·.1)) l f k ak
                    obtain ⟨r, hr⟩ : ∃ r, r = seatF ws ts (ws.map (·.1)) l f k ak := ⟨_, rfl⟩
                    rw [← hr] at HCALL heq hkeep
                    subst hAl
                    clear e3 hx hb hol hoa hal hun hr
                    by_cases hxj : x = (j : Int)
                    · have hd : (x == (j : Int)) = true := by simpa using hxj
                      rw [if_pos hxj] at heq
                      obtain ⟨r1, r2, r3⟩ := r
                      simp only at hkeep heq
                      obtain ⟨kp1, kp2, kp3, kp4⟩ := hkeep
                      rcases Bool.eq_false_or_eq_true r1 with hr1 | hr1
                      · subst hr1
                        simp only [if_true] at heq
                        have HEQ3 := Lib.hid heq
                        have hir2 : i < r2.length := by rw [kp4, HL.out]; exact hi
                        clear hxj heq kp1 kp2 kp3 kp4
                        go_wp2_with fail
                        refine HCALL.out.mono ?_
                        clear HCALL
                        rintro e w5 ⟨rfl, hb5, hol5, hoa5⟩
                        obtain ⟨gl', hgl', _, _, v0, vf⟩ := hol5.cell1 (f := fun x : Int => .int .i64 x) hir2
                        have : gl = gl' := by simpa using hgl'
                        subst this
                        have hput := hol5.put1 (k := i) (x := (j : Int)) hir2
                        have hoa6 := hoa5.otherT hol5 (by decide) (gb_setCell w5 gl i (.int .i64 (j : Int)))
                        have hb6 := (HB.out.trans hb5).setCell (p := ⟨gl, i, none⟩) hgl (.int .i64 (j : Int))
                        have HPUT := Lib.hid hput
                        have HOA6 := Lib.hid hoa6
                        have HB6 := Lib.hid hb6
                        generalize r2[i] = zz at v0
                        clear hb5 hol5 hoa5 hput hoa6 hb6
                        go_wp2_with fail
                        go_ret
                        rw [← HEQ3.out]
                        exact ⟨rfl, HB6.out, HPUT.out, HOA6.out⟩
                      · subst hr1
                        simp only [Bool.false_eq_true, if_false] at heq
                        have HEQ3 := Lib.hid heq
                        have hr2 := kp3 rfl
                        subst hr2
                        have HK1 := Lib.hid kp1
                        have HK2 := Lib.hid kp2
                        clear hxj heq kp1 kp2 kp3 kp4
                        go_wp2_with fail
                        refine HCALL.out.mono ?_
                        clear HCALL
                        rintro e w5 ⟨rfl, hb5, hol5, hoa5⟩
                        have HB5 := Lib.hid (HB.out.trans hb5)
                        have HOL5 := Lib.hid hol5
                        have HOA5 := Lib.hid hoa5
                        have HUN5 := Lib.hid (show un W r3 < (f : Nat) from Int.lt_of_le_of_lt (un_mono HK2.out) HUNK.out)
                        clear hb5 hol5 hoa5
                        go_wp2_with fail
                        go_roundw
                        case rel => exact ⟨k + 1, r3, by omega, by go_num, HB5.out, HOL5.out, HOA5.out, by rw [HK1.out]; exact HAK.out, HUN5.out, by rw [HEQ3.out]; exact HRES.out⟩
                        case measure => simp [intOf]; omega
                    · have hd : (x == (j : Int)) = false := by simpa using hxj
                      rw [if_neg hxj] at heq
                      have HEQ3 := Lib.hid heq
                      clear hxj heq hkeep HCALL
                      go_wp2_with fail
                      go_roundw
                      case rel => exact ⟨k + 1, ak, by omega, by go_num, HB.out, HOL.out, HOA.out, HAK.out, HUNK.out, by rw [HEQ3.out]; exact HRES.out⟩
                      case measure => simp [intOf]; omega
                  · obtain rfl : k = q := by omega
                    rw [List.drop_of_length_le (by simp), seatK] at heq
                    simp only [Bool.false_eq_true, if_false] at heq
                    have HB := Lib.hid hb
                    have HOL := Lib.hid hol
                    have HOA := Lib.hid hoa
                    have HEQ3 := Lib.hid heq
                    have HAK := Lib.hid hal
                    have HUNK := Lib.hid hun
                    clear hb hol hoa heq hal hun
                    go_wp2_with fail
                    go_roundw
                    case rel => exact ⟨j + 1, ak, by omega, by go_num, HB.out, HOL.out, HOA.out, HAK.out, by have := HUNK.out; push_cast; omega, by rw [HEQ3.out]; exact HRES.out⟩
                    case measure => simp [intOf]; omega
        · rw [if_pos (.inr hmay)] at heq
          rw [hmay] at HMAY
          have HEQ := Lib.hid heq
          clear hb hol hoa heq hal hun hasked hasked' hja e1 e2 hkk htt hrm hmay
          go_wp2_with fail
          refine region_plain 13 16 (fun w' => w' = wr.drew) (by kernel_rfl) rfl ?_
          refine anyC_reads (by kernel_rfl) [0, 1, 2, 3, 4, 5, 6, 7, 8, 9, 10, 11, 12] ?opb ?ohb 3 _ _ _ (by kernel_rfl) ?okb
          case ohb => (simp only [List.filterMap_cons, List.filterMap_nil, List.getElem?_toArray, List.getElem?_cons_zero, List.getElem?_cons_succ]; try rfl)
          repeat (
            refine readC_step (v := ?_) rfl (fun w' hw' => ?_) ?_
            rotate_left
            focus (subst hw'; go_simp; try with_reducible rfl)
            go_simp)
          refine readC_nil ?_
          refine anyC_one (i := 13) (by kernel_rfl) rfl rfl (.inr rfl) ?_
          go_simp
          refine HMAY.out.mono ?_
          clear HMAY
          rintro e w2 ⟨rfl, hb2⟩
          have HB2 := Lib.hid (HB.out.drew.trans (hb2.mono hlz))
          have HOL2 := Lib.hid (HOL.out.drew.below hb2 (Nat.le_refl _))
          have HOA2 := Lib.hid (HOA.out.drew.below hb2 (Nat.le_refl _))
          clear hb2
          refine anyC_one (i := 14) (by kernel_rfl) rfl rfl (.inl rfl) ?_
          go_simp
          refine anyC_one (i := 15) (by kernel_rfl) rfl rfl (.inl rfl) ?_
          go_simp
          refine anyC_end (by kernel_rfl) (.inl rfl) ?_
          go_wp2_with fail
          go_roundw
          case rel => exact ⟨j + 1, aj, by omega, by go_num, HB2.out, HOL2.out, HOA2.out, HAL.out, HUN.out, by have := HEQ.out; rw [HTT.out] at this; rw [this]; exact HRES.out⟩
          case measure => simp [intOf]; omega
    · obtain rfl : j = W := by omega
      rw [List.drop_of_length_le (by simp), seatJ] at heq
      have HB := Lib.hid hb
      have HOL := Lib.hid hol
      have HOA := Lib.hid hoa
      have HEQ := Lib.hid heq
      clear hb hol hoa heq hal hun
      go_wp2_with fail
      go_ret
      rw [← HEQ.out]
      exact ⟨rfl, HB.out, HOL.out, HOA.out⟩
theorem ref_seat (hW : ws.length = W) (hW6 : W ≤ 6) (hM : ts.length = M) (hM12 : M ≤ 12) (hl : l.length = M) (hroom : ∀ k ∈ ws, 0 ≤ k.1 ∧ k.1 ≤ 12) : ∀ f, SeatC A B Al Aa W cA M cB cl ca lo ws ts l f
  | 0 => fun i asked w _ _ hun => by have := un_nn W asked; omega
  | f + 1 => seat_step A B Al Aa W cA M cB cl ca lo ws ts l f hW hW6 hM hM12 hl hroom (ref_seat hW hW6 hM hM12 hl hroom f)
end
end Go.Proofs.Ytdinknpagklkjaa

/- How many can have a place: the reference walked. Conditions: workers and tasks read as lists. -/
namespace Go.Proofs.Ytdinknpagklkjaa
open Go.RowKit
attribute [local go_sem] Oper.semAt_some

theorem rep_snoc (k : Nat) (x : Int) : List.replicate (k + 1) x = List.replicate k x ++ [x] := by
  rw [List.replicate_succ']
theorem seatsTo_bound (ws : List Wk) (ts : List (BitVec 32)) (room : List Int) : ∀ i : Nat, 0 ≤ (seatsTo ws ts room i).2 ∧ (seatsTo ws ts room i).2 ≤ i ∧ (seatsTo ws ts room i).1.length = ts.length
  | 0 => ⟨Int.le_refl _, Int.le_refl _, List.length_replicate⟩
  | i + 1 => by
    obtain ⟨h1, h2, h3⟩ := seatsTo_bound ws ts room i
    obtain ⟨_, _, _, h4⟩ := seatF_keep ws ts room (seatsTo ws ts room i).1 (ws.length + 1) i (List.replicate ws.length false)
    unfold seatsTo
    split
    · exact ⟨by show 0 ≤ _ + 1; omega, by show _ + 1 ≤ _; push_cast; omega, by rw [← h3]; exact h4⟩
    · exact ⟨h1, by push_cast; omega, h3⟩
set_option maxRecDepth 100000 in
set_option maxHeartbeats 1000000 in
theorem ref_Seats (A B : Option Addr) (W cA M cB : Nat) (ws : List Wk) (ts : List (BitVec 32)) (w : World) (hW : ws.length = W) (hW6 : W ≤ 6) (hM : ts.length = M) (hM12 : M ≤ 12) (hroom : ∀ k ∈ ws, 0 ≤ k.1 ∧ k.1 ≤ 12) (hws : Els w w.heap.size 2 wkcell A ws) (hts : Els w w.heap.size 1 wcell B ts) :
    Calls Try.prog 48 #[.slice A W cA, .slice B M cB] w fun e w' => e = .returned (.int .i64 (seatsTo ws ts (ws.map (·.1)) M).2) ∧ Below w.heap.size w w' := by
  obtain ⟨Y, hY⟩ : ∃ Y, Y = w.heap.size := ⟨_, rfl⟩
  rw [← hY] at hws hts ⊢
  have HSEAT := Lib.hid (fun (Al Aa : Option Addr) (cl ca : Nat) (l : List Int) (hl : l.length = M) => ref_seat A B Al Aa W cA M cB cl ca Y ws ts l hW hW6 hM hM12 hl hroom (W + 1))
  have HY := Lib.hid hY
  have HW := Lib.hid hW
  have HM := Lib.hid hM
  have HWS := Lib.hid hws
  have HTS := Lib.hid hts
  have hwz : w.heap.size = Y := hY.symm
  clear hY hW hM hws hts hroom
  go_enter Try.func48, Try.ntmps48
  go_wp2_with fail
  go_loopw [10, 5] (fun s10 s5 wr => ∃ (k : Nat) (A7 : Option Addr) (cap7 : Nat), k ≤ M ∧ s10 = .int .i64 k ∧ s5 = .slice A7 k cap7 ∧ Below Y w wr ∧ Own wr Y 3 1 icell A7 cap7 (List.replicate k (-1))) (fun s10 _ _ => M - (intOf s10).toNat)
  case atStart => exact ⟨0, none, 0, Nat.zero_le _, rfl, rfl, Below.refl _ _, Own.nil _ _ _ (fun _ => rfl)⟩
  case round =>
    rename World => wr
    obtain ⟨k, A7, cap7, hk, rfl, rfl, hb, ho⟩ := hrel
    have hYz : Y ≤ wr.heap.size := by have := hb.size; omega
    by_cases hkM : k < M
    · have HB := Lib.hid hb
      have HO := Lib.hid ho
      clear hb ho
      go_wp2_with (at_builtin; (
        refine wpList_push rfl _ _ _ rfl Y 1 3 (.int .i64 0) 8 Try.underlying27 (by kernel_rfl) rfl (by omega) icell wr #[.int .i64 (-1)] A7 k cap7 (List.replicate k (-1)) List.length_replicate rfl HO.out 1 [(-1 : Int)] rfl rfl _ rfl rfl (by simp [Value.oneCell']) (by unfold maxLen; omega) (by omega) hYz ?_
        intro A9 cap9 w9 hown9 hgrow9 hloc9))
      have hb9 := (HB.out.alloc hYz _).grown hgrow9 (by rw [size_alloc']; omega) (fun g hg => (HO.out.lt g hg).1)
      rw [← rep_snoc] at hown9
      have HB9 := Lib.hid hb9
      have HO9 := Lib.hid hown9
      clear hb9 hown9 hgrow9 hloc9
      go_roundw
      case rel => exact ⟨k + 1, A9, cap9, by omega, by go_num, rfl, HB9.out, HO9.out⟩
      case measure => simp [intOf]; omega
    · obtain rfl : k = M := by omega
      have HB := Lib.hid hb
      have ho' : Own wr Y 3 1 icell A7 cap7 (seatsTo ws ts (ws.map (·.1)) 0).1 := by
        show Own wr Y _ 1 icell A7 cap7 (List.replicate ts.length (-1))
        rw [HM.out]
        exact ho
      have HO := Lib.hid ho'
      clear hb ho ho'
      go_wp2_with fail
      go_loopw [7, 6] (fun s7 s6 wq => ∃ i : Nat, i ≤ k ∧ s7 = .int .i64 i ∧ s6 = .int .i64 (seatsTo ws ts (ws.map (·.1)) i).2 ∧ Below Y w wq ∧ Own wq Y 3 1 icell A7 cap7 (seatsTo ws ts (ws.map (·.1)) i).1) (fun s7 _ _ => k - (intOf s7).toNat)
      case atStart => exact ⟨0, Nat.zero_le _, rfl, rfl, HB.out, HO.out⟩
      case round =>
        clear HB HO hYz
        rename World => wq
        obtain ⟨i, hi, rfl, rfl, hb, ho⟩ := hrel
        have hYz : Y ≤ wq.heap.size := by have := hb.size; omega
        obtain ⟨n0, n1, nl⟩ := seatsTo_bound ws ts (ws.map (·.1)) i
        rw [HM.out] at nl
        by_cases hik : i < k
        · have hsucc : seatsTo ws ts (ws.map (·.1)) (i + 1) = if (seatF ws ts (ws.map (·.1)) (seatsTo ws ts (ws.map (·.1)) i).1 (W + 1) i (List.replicate W false)).1 = true then ((seatF ws ts (ws.map (·.1)) (seatsTo ws ts (ws.map (·.1)) i).1 (W + 1) i (List.replicate W false)).2.1, (seatsTo ws ts (ws.map (·.1)) i).2 + 1) else seatsTo ws ts (ws.map (·.1)) i := by
            rw [seatsTo, HW.out]
          have hkeep := seatF_keep ws ts (ws.map (·.1)) (seatsTo ws ts (ws.map (·.1)) i).1 (W + 1) i (List.replicate W false)
          obtain ⟨st, hst⟩ : ∃ st, st = seatsTo ws ts (ws.map (·.1)) i := ⟨_, rfl⟩
          rw [← hst] at n0 n1 nl hsucc ho hkeep ⊢
          obtain ⟨sl, sn⟩ := st
          simp only at n0 n1 nl ho hsucc hkeep ⊢
          have HB := Lib.hid hb
          have HO := Lib.hid ho
          have HNL := Lib.hid nl
          have HST := Lib.hid hst
          obtain ⟨r, hr⟩ : ∃ r, r = seatF ws ts (ws.map (·.1)) sl (W + 1) i (List.replicate W false) := ⟨_, rfl⟩
          rw [← hr] at hsucc hkeep
          have HR := Lib.hid hr
          obtain ⟨r1, r2, r3⟩ := r
          simp only at hsucc hkeep
          obtain ⟨_, _, kp3, _⟩ := hkeep
          have HSU := Lib.hid hsucc
          have HKP := Lib.hid kp3
          have hwv : IntKind.i64.wrap (sn + 1) = sn + 1 := IntWalk.i64_in _ (by omega)
          clear hb ho nl hst hr hsucc kp3
          go_wp2_with (at_make; (refine wpList_make1 rfl _ _ _ rfl wq.heap.size 4 1 (fun b => .bool b) false Try.underlying155 (by kernel_rfl) rfl wq .i64 .i64 W rfl rfl (by omega) (by unfold maxLen; omega) (Nat.le_refl _) ?_; intro v4 hown4 hgrow4))
          have hb4 := HB.out.grown hgrow4 hYz (by simp)
          have ho4 := HO.out.kept hgrow4 (by
            cases h : blkOf A7 with
            | none => exact .inl rfl
            | some g => exact .inr (by simp))
          have hz4 : Y ≤ v4.heap.size := Nat.le_trans hYz hgrow4.size
          have hcall := HSEAT.out A7 (some ⟨wq.heap.size, 0, none⟩) cap7 W sl HNL.out i (List.replicate W false) v4 hik List.length_replicate (by have := un_none W; push_cast; omega) hz4 (HWS.out.below hb4) (HTS.out.below hb4) ho4 (hown4.weaken hYz)
          rw [← HR.out] at hcall
          have HCALL := Lib.hid hcall
          have HB4 := Lib.hid hb4
          clear hcall hb4 ho4 hown4 hgrow4
          refine HCALL.out.mono ?_
          clear HCALL
          rintro e w5 ⟨rfl, hb5, ho5, _⟩
          have HB5 := Lib.hid (HB4.out.trans hb5)
          have HO5 := Lib.hid ho5
          clear hb5 ho5
          rcases Bool.eq_false_or_eq_true r1 with hr1 | hr1
          · subst hr1
            have hs2 := HSU.out
            simp only [if_true] at hs2
            have HS2 := Lib.hid hs2
            clear hs2
            go_wp2_with fail
            go_roundw
            case rel => exact ⟨i + 1, by omega, by go_num, by rw [HS2.out], HB5.out, by rw [HS2.out]; exact HO5.out⟩
            case measure => simp [intOf]; omega
          · subst hr1
            have hs2 := HSU.out
            simp only [Bool.false_eq_true, if_false] at hs2
            have hk3 := HKP.out rfl
            subst hk3
            have HS2 := Lib.hid hs2
            clear hs2
            go_wp2_with fail
            go_roundw
            case rel => exact ⟨i + 1, by omega, by go_num, by rw [HS2.out], HB5.out, by rw [HS2.out]; exact HO5.out⟩
            case measure => simp [intOf]; omega
        · obtain rfl : i = k := by omega
          have HB := Lib.hid hb
          clear hb ho
          go_wp2_with fail
          go_ret
          exact ⟨rfl, HB.out⟩
end Go.Proofs.Ytdinknpagklkjaa
