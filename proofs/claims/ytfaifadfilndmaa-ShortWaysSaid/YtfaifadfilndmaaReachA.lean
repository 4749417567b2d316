/- How far all nodes are: the program's relaxing in place. Conditions: the arcs read as a list and may be; the node is one. -/
import Derived.Test.YtfaifadfilndmaaReachP
import Derived.Test.YtfaifadfilndmaaMade
import Derived.Test.YtfaifadfilndmaaCells
import Derived.Deep.DeepCutAuto
import Derived.Laws.EntriesVeiled
import Derived.IntWalk
namespace Go.Proofs.Ytfaifadfilndmaa
open Go.RowKit

abbrev bcell (b : Bool) : List Value := [.bool b]
def farL (O : List (Option Int)) : List Int := O.map fun x => x.getD 0
def thereL (O : List (Option Int)) : List Bool := O.map Option.isSome
theorem farL_set (O : List (Option Int)) (i : Nat) (x : Int) : farL (O.set i (some x)) = (farL O).set i x := by unfold farL; rw [List.map_set]; rfl
theorem thereL_set (O : List (Option Int)) (i : Nat) (x : Int) : thereL (O.set i (some x)) = (thereL O).set i true := by unfold thereL; rw [List.map_set]; rfl
theorem farL_length (O : List (Option Int)) : (farL O).length = O.length := by simp [farL]
theorem thereL_length (O : List (Option Int)) : (thereL O).length = O.length := by simp [thereL]
theorem farL_at (O : List (Option Int)) (v : Nat) : (farL O).getD v 0 = (og O v).getD 0 := by
  unfold farL og
  by_cases h : v < O.length <;> simp [List.getD_eq_getElem?_getD, h]
theorem thereL_at (O : List (Option Int)) (v : Nat) : (thereL O).getD v false = (og O v).isSome := by
  unfold thereL og
  by_cases h : v < O.length <;> simp [List.getD_eq_getElem?_getD, h]
theorem chgP_no : ∀ (l : List Arc) (O : List (Option Int)), chgP O l = false → passP O l = O
  | [], _, _ => rfl
  | a :: l, O, h => by
    rw [chgP, Bool.or_eq_false_iff] at h
    have h2 := h.2
    rw [relS_no h.1] at h2
    show passP (relS O O a) l = O
    rw [relS_no h.1]
    exact chgP_no l O h2
def fromOk (l : List Arc) (N s : Nat) : Bool := (List.range (N + 1)).any fun r => !chgP (progO l N s r) l
theorem hp_alloc (w : World) (o : Obj) : (w.alloc o).heap = w.heap.push o := rfl
theorem hp_drew (w : World) : w.drew.heap = w.heap := rfl
theorem far_start (N s : Nat) : farL (startO N s) = List.replicate N 0 := by
  unfold farL startO
  apply List.ext_getElem (by simp)
  intro i h1 h2
  simp only [List.getElem_map, List.getElem_set, List.getElem_replicate]
  split <;> rfl
theorem there_start (N s : Nat) : thereL (startO N s) = (List.replicate N false).set s true := by
  unfold thereL startO
  rw [List.map_set, List.map_replicate]
  rfl
/-- The bounds of what is told in the middle of a pass. -/
theorem prog_bound {l : List Arc} {N s r k v : Nat} {x : Int} (hg : ∀ a ∈ l, GoodA N a) (hs : s < N) (hr : r ≤ 10) (hn : l.length ≤ 30) (hk : k ≤ l.length) (h : og (passP (progO l N s r) (l.take k)) v = some x) : -400000000 ≤ x ∧ x ≤ 400000000 := by
  have h1 := (progO_ok hg hs r).1
  have h2 := passP_sound hg (l.take k) (r * l.length) (progO l N s r) (fun a ha => List.mem_of_mem_take ha) (progO_length l N s r) h1
  obtain ⟨q, hq, hw⟩ := h2 v x h
  have hb := hw.bound hg
  have : r * l.length ≤ 10 * 30 := Nat.mul_le_mul hr hn
  rw [List.length_take] at hq
  have : q ≤ 330 := by omega
  omega
set_option maxRecDepth 100000 in
set_option maxHeartbeats 4000000 in
theorem short_from_own (N s : Nat) (A : Option Addr) (n c : Nat) (l : List Arc) (w : World) (hl : l.length = n) (hg : ∀ a ∈ l, GoodA N a) (hN : N ≤ 10) (hn : n ≤ 30) (hs : s < N) (hr : Els w w.heap.size 4 Arc.cells A l) :
    Calls Try.prog 59 #[.agg #[.int .i64 N, .slice A n c], .int .i64 s] w fun e w' => ∃ A1 A2 O, e = .returned (.tuple #[.agg #[.slice A1 N N, .slice A2 N N], .bool (fromOk l N s)]) ∧ Below w.heap.size w w' ∧
      Own w' w.heap.size 2 1 icell A1 N (farL O) ∧ Own w' w.heap.size 4 1 bcell A2 N (thereL O) ∧ O.length = N ∧ (fromOk l N s = true → ∃ r, r ≤ N ∧ O = progO l N s r ∧ chgP O l = false) := by
  have hi1 : (Try.prog.info? 2).map (fun i => (i.zero, i.size, i.bytes)) = some (some (.int .i64 0), 1, 8) := rfl
  have hi2 : (Try.prog.info? 4).map (fun i => (i.zero, i.size, i.bytes)) = some (some (.bool false), 1, 1) := rfl
  obtain ⟨i1, a1, b1, c1, d1⟩ := info_parts hi1
  obtain ⟨i2, a2, b2, c2, d2⟩ := info_parts hi2
  have hm1 : ∀ W : World, (Instr.makeSlice 35 (.int .i64 N) (.int .i64 N)).run Try.prog W = .ok (.slice (some ⟨W.heap.size, 0, none⟩) N N) (W.alloc (.cells (madeCells #[.int .i64 0] N) 2)) := fun W => by
    have := run_make (P := Try.prog) W 35 2 i1 (.int .i64 0) (by kernel_rfl) a1 b1 .i64 .i64 N N (by omega) (Int.le_refl _) (by rw [d1]; omega) (by omega)
    rw [c1, Nat.mul_one, show (Value.int .i64 0).cells = #[Value.int .i64 0] from rfl] at this
    simpa using this
  have hm2 : ∀ W : World, (Instr.makeSlice 74 (.int .i64 N) (.int .i64 N)).run Try.prog W = .ok (.slice (some ⟨W.heap.size, 0, none⟩) N N) (W.alloc (.cells (madeCells #[.bool false] N) 4)) := fun W => by
    have := run_make (P := Try.prog) W 74 4 i2 (.bool false) (by kernel_rfl) a2 b2 .i64 .i64 N N (by omega) (Int.le_refl _) (by rw [d2]; omega) (by omega)
    rw [c2, Nat.mul_one, show (Value.bool false).cells = #[Value.bool false] from rfl] at this
    simpa using this
  clear hi1 hi2 a1 b1 c1 d1 a2 b2 c2 d2
  have HL := Lib.hid hl
  have HG := Lib.hid hg
  have HR := Lib.hid hr
  clear hl hg hr
  have hV0 : ∀ o1 o2 o3 o4 o5 : Obj, Below w.heap.size w (((((w.alloc o1).alloc o2).alloc o3).alloc o4).alloc o5).drew := fun o1 o2 o3 o4 o5 =>
    ((((Below.refl w.heap.size w).alloc (Nat.le_refl _) o1).alloc (by simp) o2).alloc (by simp; omega) o3 |>.alloc (by simp; omega) o4 |>.alloc (by simp; omega) o5).drew
  go_enter Try.func59, Try.ntmps59
  go_upto_region 1 with fail
  go_cut [6] (fun s6 wx => ∃ X g1 g2 : Nat, s6 = .pointer (some ⟨X, 0, none⟩) ∧ w.heap.size + 2 ≤ X ∧ w.heap.size + 2 ≤ g1 ∧ w.heap.size + 2 ≤ g2 ∧ g1 ≠ X ∧ g2 ≠ X ∧ g1 ≠ g2 ∧ Below w.heap.size w wx ∧ Blk wx w.heap.size 34 #[.int .i64 N, .slice A n c] ∧
    Blk wx (w.heap.size + 1) 110 #[.slice none 0 0, .slice none 0 0] ∧ Blk wx X 110 #[.slice (some ⟨g1, 0, none⟩) N N, .slice (some ⟨g2, 0, none⟩) N N] ∧
    Own wx (w.heap.size + 2) 2 1 icell (some ⟨g1, 0, none⟩) N (List.replicate N 0) ∧ Own wx (w.heap.size + 2) 4 1 bcell (some ⟨g2, 0, none⟩) N (List.replicate N false))
  case first =>
    go_region
    all_goals
      go_wp2_with fail
      go_meet
      first
        | ((refine ⟨_, w.heap.size + 1 + 1, w.heap.size + 1 + 1 + 1, rfl, ?_, ?_, ?_, ?_, ?_, ?_, hV0 _ _ _ _ _, ?_, ?_, ?_, Own.block1 (f := fun x => .int .i64 x) (x0 := 0) ?_ ?_ ?_, Own.block1 (f := fun x => .bool x) (x0 := false) ?_ ?_ ?_⟩ <;> first | omega | (unfold maxLen; omega) | (simp only [Blk, hp_drew, hp_alloc, Array.getElem?_push, Array.size_push]; repeat (first | rfl | rw [if_neg (by omega)] | rw [if_pos (by omega)]))); done)
        | ((refine ⟨_, w.heap.size + 1 + 1, w.heap.size + 1 + 1 + 1 + 1, rfl, ?_, ?_, ?_, ?_, ?_, ?_, hV0 _ _ _ _ _, ?_, ?_, ?_, Own.block1 (f := fun x => .int .i64 x) (x0 := 0) ?_ ?_ ?_, Own.block1 (f := fun x => .bool x) (x0 := false) ?_ ?_ ?_⟩ <;> first | omega | (unfold maxLen; omega) | (simp only [Blk, hp_drew, hp_alloc, Array.getElem?_push, Array.size_push]; repeat (first | rfl | rw [if_neg (by omega)] | rw [if_pos (by omega)]))); done)
        | ((refine ⟨_, w.heap.size + 1 + 1 + 1, w.heap.size + 1 + 1, rfl, ?_, ?_, ?_, ?_, ?_, ?_, hV0 _ _ _ _ _, ?_, ?_, ?_, Own.block1 (f := fun x => .int .i64 x) (x0 := 0) ?_ ?_ ?_, Own.block1 (f := fun x => .bool x) (x0 := false) ?_ ?_ ?_⟩ <;> first | omega | (unfold maxLen; omega) | (simp only [Blk, hp_drew, hp_alloc, Array.getElem?_push, Array.size_push]; repeat (first | rfl | rw [if_neg (by omega)] | rw [if_pos (by omega)]))); done)
        | ((refine ⟨_, w.heap.size + 1 + 1 + 1, w.heap.size + 1 + 1 + 1 + 1, rfl, ?_, ?_, ?_, ?_, ?_, ?_, hV0 _ _ _ _ _, ?_, ?_, ?_, Own.block1 (f := fun x => .int .i64 x) (x0 := 0) ?_ ?_ ?_, Own.block1 (f := fun x => .bool x) (x0 := false) ?_ ?_ ?_⟩ <;> first | omega | (unfold maxLen; omega) | (simp only [Blk, hp_drew, hp_alloc, Array.getElem?_push, Array.size_push]; repeat (first | rfl | rw [if_neg (by omega)] | rw [if_pos (by omega)]))); done)
        | ((refine ⟨_, w.heap.size + 1 + 1 + 1 + 1, w.heap.size + 1 + 1, rfl, ?_, ?_, ?_, ?_, ?_, ?_, hV0 _ _ _ _ _, ?_, ?_, ?_, Own.block1 (f := fun x => .int .i64 x) (x0 := 0) ?_ ?_ ?_, Own.block1 (f := fun x => .bool x) (x0 := false) ?_ ?_ ?_⟩ <;> first | omega | (unfold maxLen; omega) | (simp only [Blk, hp_drew, hp_alloc, Array.getElem?_push, Array.size_push]; repeat (first | rfl | rw [if_neg (by omega)] | rw [if_pos (by omega)]))); done)
        | ((refine ⟨_, w.heap.size + 1 + 1 + 1 + 1, w.heap.size + 1 + 1 + 1, rfl, ?_, ?_, ?_, ?_, ?_, ?_, hV0 _ _ _ _ _, ?_, ?_, ?_, Own.block1 (f := fun x => .int .i64 x) (x0 := 0) ?_ ?_ ?_, Own.block1 (f := fun x => .bool x) (x0 := false) ?_ ?_ ?_⟩ <;> first | omega | (unfold maxLen; omega) | (simp only [Blk, hp_drew, hp_alloc, Array.getElem?_push, Array.size_push]; repeat (first | rfl | rw [if_neg (by omega)] | rw [if_pos (by omega)]))); done)
  case rest =>
    obtain ⟨X, g1, g2, rfl, hX, hg1, hg2, h1X, h2X, h12, hb, hk0, hk1, hkx, ho1, ho2⟩ := hcut
    clear hm1 hm2 hV0
    obtain ⟨_, he2, _, _, d2, f2⟩ := ho2.cell1 (f := fun x => .bool x) (k := s) (by simpa using hs)
    have hp2 := ho2.put1 (f := fun x => .bool x) (k := s) (x := true) (by simpa using hs)
    rw [← there_start] at hp2
    rw [← far_start N s] at ho1
    injection he2 with he2
    injection he2 with he2
    subst he2
    have hz := hb.size
    have HB := Lib.hid (hb.setCell (show w.heap.size ≤ g2 by omega) (.bool true) (p := ⟨g2, s, none⟩))
    have HK0 := Lib.hid (hk0.far (p := ⟨g2, s, none⟩) (show w.heap.size ≠ g2 by omega) (.bool true))
    have HK1 := Lib.hid (hk1.far (p := ⟨g2, s, none⟩) (show w.heap.size + 1 ≠ g2 by omega) (.bool true))
    have HKX := Lib.hid (hkx.far (p := ⟨g2, s, none⟩) (show X ≠ g2 by omega) (.bool true))
    have HO1 := Lib.hid (ho1.far (p := ⟨g2, s, none⟩) (show some g1 ≠ some g2 by simpa using h12) (.bool true))
    have HO2 := Lib.hid hp2
    have cx1 := hkx.cell 1
    have c0 := (hk0.far (p := ⟨g2, s, none⟩) (show w.heap.size ≠ g2 by omega) (.bool true)).cell 0
    clear hb hk0 hk1 hkx ho1 ho2 hp2
    go_wp2_with fail
    go_loopw [25] (fun s5 wr => ∃ r : Nat, r ≤ N + 1 ∧ s5 = .int .i64 r ∧ Below w.heap.size w wr ∧ Blk wr w.heap.size 34 #[.int .i64 N, .slice A n c] ∧ Blk wr (w.heap.size + 1) 110 #[.slice none 0 0, .slice none 0 0] ∧ Blk wr X 110 #[.slice (some ⟨g1, 0, none⟩) N N, .slice (some ⟨g2, 0, none⟩) N N] ∧
      Own wr (w.heap.size + 2) 2 1 icell (some ⟨g1, 0, none⟩) N (farL (progO l N s r)) ∧ Own wr (w.heap.size + 2) 4 1 bcell (some ⟨g2, 0, none⟩) N (thereL (progO l N s r)) ∧ ∀ q, q < r → chgP (progO l N s q) l = true) (fun s5 _ => N + 1 - (intOf s5).toNat)
    case atStart => exact ⟨0, by omega, rfl, HB.out, HK0.out, HK1.out, HKX.out, HO1.out, HO2.out, fun q hq => by omega⟩
    case round =>
      clear c0 cx1 d2 f2 HB HK0 HK1 HKX HO1 HO2
      rename World => wr
      obtain ⟨r, hrN, rfl, hb, hk0, hk1, hkx, ho1, ho2, hch⟩ := hrel
      have HCH := Lib.hid hch
      by_cases hlt : r < N + 1
      · have HB := Lib.hid hb
        have HK0 := Lib.hid hk0
        have HK1 := Lib.hid hk1
        have HKX := Lib.hid hkx
        have HO1 := Lib.hid ho1
        have HO2 := Lib.hid ho2
        have c1 := hk0.cell 1
        clear hb hk0 hk1 hkx ho1 ho2 hch
        go_wp2_with fail
        go_loopw [30, 7] (fun s30 s7 w2 => ∃ k : Nat, k ≤ n ∧ s30 = .int .i64 k ∧ s7 = .bool (chgP (progO l N s r) (l.take k)) ∧ Below w.heap.size w w2 ∧ Blk w2 w.heap.size 34 #[.int .i64 N, .slice A n c] ∧ Blk w2 (w.heap.size + 1) 110 #[.slice none 0 0, .slice none 0 0] ∧
          Blk w2 X 110 #[.slice (some ⟨g1, 0, none⟩) N N, .slice (some ⟨g2, 0, none⟩) N N] ∧ Own w2 (w.heap.size + 2) 2 1 icell (some ⟨g1, 0, none⟩) N (farL (passP (progO l N s r) (l.take k))) ∧ Own w2 (w.heap.size + 2) 4 1 bcell (some ⟨g2, 0, none⟩) N (thereL (passP (progO l N s r) (l.take k)))) (fun s30 _ _ => n - (intOf s30).toNat)
        case atStart => exact ⟨0, by omega, rfl, rfl, HB.out, HK0.out, HK1.out, HKX.out, HO1.out, HO2.out⟩
        case round =>
          clear c1 HB HK0 HK1 HKX HO1 HO2
          rename World => w2
          obtain ⟨k, hk, rfl, rfl, hb, hk0, hk1, hkx, ho1, ho2⟩ := hrel
          have hz := hb.size
          have HB := Lib.hid hb
          have HK0 := Lib.hid hk0
          have HK1 := Lib.hid hk1
          have HKX := Lib.hid hkx
          have cx0 := hkx.cell 0
          have cx1 := hkx.cell 1
          have hltX := hkx.lt
          have hlt0 := (ho1.lt g1 rfl).2
          have hlt2 := (ho2.lt g2 rfl).2
          by_cases hlk : k < n
          · have hkl : k < l.length := by rw [HL.out]; exact hlk
            obtain ⟨b0, off, rfl, hbb, q0, q1, q2, q3⟩ := (HR.out.below hb).at4 hkl
            obtain ⟨a, ha⟩ : ∃ a, a = l[k] := ⟨_, rfl⟩
            have hga : GoodA N a := by rw [ha]; exact HG.out _ (List.getElem_mem hkl)
            have htk : l.take (k + 1) = l.take k ++ [a] := by rw [List.take_succ_eq_append_getElem hkl, ha]
            rw [← ha] at q0 q1 q2 q3
            have hQl : (passP (progO l N s r) (l.take k)).length = N := by rw [passP_length, progO_length]
            have hbd : ∀ v x, og (passP (progO l N s r) (l.take k)) v = some x → -400000000 ≤ x ∧ x ≤ 400000000 := fun v x h => prog_bound HG.out hs (by omega) (by rw [HL.out]; exact hn) (by omega) h
            have hnp : passP (progO l N s r) (l.take (k + 1)) = relS (passP (progO l N s r) (l.take k)) (passP (progO l N s r) (l.take k)) a := by rw [htk, passP_snoc]
            have hnc : chgP (progO l N s r) (l.take (k + 1)) = (chgP (progO l N s r) (l.take k) || impS (passP (progO l N s r) (l.take k)) (passP (progO l N s r) (l.take k)) a) := by rw [htk, chgP_snoc]
            obtain ⟨Q, hQ⟩ : ∃ Q, Q = passP (progO l N s r) (l.take k) := ⟨_, rfl⟩
            obtain ⟨bt, hbt⟩ : ∃ bt, bt = chgP (progO l N s r) (l.take k) := ⟨_, rfl⟩
            rw [← hQ] at hQl hbd hnp hnc ho1 ho2
            rw [← hbt] at hnc ⊢
            have HNP := Lib.hid hnp
            have HNC := Lib.hid hnc
            have HQL := Lib.hid hQl
            obtain ⟨f, hf⟩ := Int.eq_ofNat_of_zero_le hga.f0
            obtain ⟨tt, ht⟩ := Int.eq_ofNat_of_zero_le hga.t0
            have hfN : f < N := by have := hga.f1; omega
            have htN : tt < N := by have := hga.t1; omega
            have he0 := hga.e0
            have he1 := hga.e1
            rw [hf] at q0
            rw [ht] at q1
            have hlf : ∀ v, v < N → v < (farL Q).length := fun v hv => by rw [farL_length, hQl]; exact hv
            have hlt : ∀ v, v < N → v < (thereL Q).length := fun v hv => by rw [thereL_length, hQl]; exact hv
            obtain ⟨cf, _⟩ := ho1.at_ (f := fun x => .int .i64 x) (hlf f hfN)
            obtain ⟨ct, ft⟩ := ho1.at_ (f := fun x => .int .i64 x) (hlf tt htN)
            obtain ⟨df, _⟩ := ho2.at_ (f := fun x => .bool x) (hlt f hfN)
            obtain ⟨dt, fdt⟩ := ho2.at_ (f := fun x => .bool x) (hlt tt htN)
            rw [← getD_at _ f (hlf f hfN) 0, farL_at] at cf
            rw [← getD_at _ tt (hlf tt htN) 0, farL_at] at ct
            rw [← getD_at _ f (hlt f hfN) false, thereL_at] at df
            rw [← getD_at _ tt (hlt tt htN) false, thereL_at] at dt
            have hbf := hbd f
            have hbt2 := hbd tt
            have hI : impS Q Q a = match og Q f with
              | none => false
              | some x => bestO (og Q tt) (x + a.e) := by unfold impS; rw [hf, ht]; rfl
            have HRY := Lib.hid (@relS_yes Q Q a)
            have HRN := Lib.hid (@relS_no Q Q a)
            obtain ⟨F, hF⟩ : ∃ F, F = og Q f := ⟨_, rfl⟩
            obtain ⟨T, hT⟩ : ∃ T, T = og Q tt := ⟨_, rfl⟩
            rw [← hF] at cf df hbf hI
            rw [← hT] at ct dt hbt2 hI
            have HFF := Lib.hid hF
            have HTT := Lib.hid ht
            have HFA := Lib.hid hf
            have HO1 := Lib.hid ho1
            have HO2 := Lib.hid ho2
            have HLF := Lib.hid hlf
            have HLT := Lib.hid hlt
            obtain ⟨ae, hae⟩ : ∃ x, x = a.e := ⟨_, rfl⟩
            obtain ⟨am, ham⟩ : ∃ x, x = a.m := ⟨_, rfl⟩
            rw [← hae] at he0 he1 q3 hI
            rw [← ham] at q2
            have HAE := Lib.hid hae
            have hE0 := Blk.new w2 70 #[.int .i64 f, .int .i64 tt, .int .i64 am, .int .i64 ae]
            have e0 := hE0.cell 0
            have e1 := hE0.cell 1
            have e3 := hE0.cell 3
            clear hE0 hQ hbt hF hT hf ht hae ham ha hga htk hbd hnp hnc hQl hb hk0 hk1 hkx ho1 ho2 hlf hlt
            have fin : ∀ w3 : World, Below (w2.heap.size) w2 w3 → impS Q Q a = false → (∃ k' : Nat, k' ≤ n ∧ Value.int .i64 ((k : Int) + 1) = .int .i64 k' ∧ Value.bool bt = .bool (chgP (progO l N s r) (l.take k')) ∧ Below w.heap.size w w3 ∧ Blk w3 w.heap.size 34 #[.int .i64 N, .slice (some ⟨b0, off, none⟩) n c] ∧ Blk w3 (w.heap.size + 1) 110 #[.slice none 0 0, .slice none 0 0] ∧
              Blk w3 X 110 #[.slice (some ⟨g1, 0, none⟩) N N, .slice (some ⟨g2, 0, none⟩) N N] ∧ Own w3 (w.heap.size + 2) 2 1 icell (some ⟨g1, 0, none⟩) N (farL (passP (progO l N s r) (l.take k'))) ∧ Own w3 (w.heap.size + 2) 4 1 bcell (some ⟨g2, 0, none⟩) N (thereL (passP (progO l N s r) (l.take k')))) := fun w3 h3 hno =>
              ⟨k + 1, by omega, by go_num, by rw [HNC.out, hno, Bool.or_false], HB.out.trans (h3.mono hz), HK0.out.below h3 (by omega), HK1.out.below h3 (by omega), HKX.out.below h3 hltX,
                by rw [HNP.out, HRN.out hno]; exact HO1.out.below h3 (Nat.le_refl _), by rw [HNP.out, HRN.out hno]; exact HO2.out.below h3 (Nat.le_refl _)⟩
            have FIN := Lib.hid fin
            clear fin
            have hbx := Lib.hid ((Below.refl w2.heap.size w2).alloc (Nat.le_refl _) (.cells #[.int .i64 f, .int .i64 tt, .int .i64 am, .int .i64 ae] 70))
            cases F with
            | none =>
              simp only [Option.getD_none, Option.isSome_none] at cf df
              have hw : IntKind.i64.wrap (0 + ae) = 0 + ae := IntWalk.i64_in _ (by omega)
              have HI : Hid (impS Q Q a = false) := Lib.hid hI
              clear hI hbf
              go_wp2_with fail
              go_quiet (fail)
              go_wp2_with fail
              go_roundw
              case rel => exact FIN.out _ (below_drewN hbx.out _) HI.out
              case measure => simp [intOf]; omega
            | some x =>
              have hbx2 := hbf x rfl
              simp only [Option.getD_some, Option.isSome_some] at cf df hI
              have hw : IntKind.i64.wrap (x + ae) = x + ae := IntWalk.i64_in _ (by omega)
              have finy : ∀ w3 : World, Below (w2.heap.size) w2 w3 → impS Q Q a = true → (∃ k' : Nat, k' ≤ n ∧ Value.int .i64 ((k : Int) + 1) = .int .i64 k' ∧ Value.bool true = .bool (chgP (progO l N s r) (l.take k')) ∧ Below w.heap.size w ((w3.setCell ⟨g1, tt, none⟩ (.int .i64 (x + ae))).setCell ⟨g2, tt, none⟩ (.bool true)) ∧ Blk ((w3.setCell ⟨g1, tt, none⟩ (.int .i64 (x + ae))).setCell ⟨g2, tt, none⟩ (.bool true)) w.heap.size 34 #[.int .i64 N, .slice (some ⟨b0, off, none⟩) n c] ∧ Blk ((w3.setCell ⟨g1, tt, none⟩ (.int .i64 (x + ae))).setCell ⟨g2, tt, none⟩ (.bool true)) (w.heap.size + 1) 110 #[.slice none 0 0, .slice none 0 0] ∧
                Blk ((w3.setCell ⟨g1, tt, none⟩ (.int .i64 (x + ae))).setCell ⟨g2, tt, none⟩ (.bool true)) X 110 #[.slice (some ⟨g1, 0, none⟩) N N, .slice (some ⟨g2, 0, none⟩) N N] ∧ Own ((w3.setCell ⟨g1, tt, none⟩ (.int .i64 (x + ae))).setCell ⟨g2, tt, none⟩ (.bool true)) (w.heap.size + 2) 2 1 icell (some ⟨g1, 0, none⟩) N (farL (passP (progO l N s r) (l.take k'))) ∧ Own ((w3.setCell ⟨g1, tt, none⟩ (.int .i64 (x + ae))).setCell ⟨g2, tt, none⟩ (.bool true)) (w.heap.size + 2) 4 1 bcell (some ⟨g2, 0, none⟩) N (thereL (passP (progO l N s r) (l.take k')))) := fun w3 h3 hyes => by
                obtain ⟨x', hx1, hx2⟩ := HRY.out hyes
                rw [HFA.out] at hx1
                rw [HTT.out, ← HAE.out] at hx2
                have hxx : x' = x := by
                  have := hx1.symm.trans (HFF.out.symm)
                  injection this
                subst hxx
                have o1 := (HO1.out.below h3 (Nat.le_refl _)).put1 (f := fun x => .int .i64 x) (k := tt) (x := x' + ae) (HLF.out tt htN)
                have o2 := ((HO2.out.below h3 (Nat.le_refl _)).far (p := ⟨g1, tt, none⟩) (show some g2 ≠ some g1 by simpa using fun e => h12 e.symm) (.int .i64 (x' + ae))).put1 (f := fun x => .bool x) (k := tt) (x := true) (HLT.out tt htN)
                have o3 := o1.far (p := ⟨g2, tt, none⟩) (show some g1 ≠ some g2 by simpa using h12) (.bool true)
                rw [← farL_set] at o3
                rw [← thereL_set] at o2
                refine ⟨k + 1, by omega, by go_num, by rw [HNC.out, hyes, Bool.or_true], ((HB.out.trans (h3.mono hz)).setCell (p := ⟨g1, tt, none⟩) (show w.heap.size ≤ g1 by omega) _).setCell (p := ⟨g2, tt, none⟩) (show w.heap.size ≤ g2 by omega) _, ((HK0.out.below h3 (by omega)).far (p := ⟨g1, tt, none⟩) (show w.heap.size ≠ g1 by omega) _).far (p := ⟨g2, tt, none⟩) (show w.heap.size ≠ g2 by omega) _, ((HK1.out.below h3 (by omega)).far (p := ⟨g1, tt, none⟩) (show w.heap.size + 1 ≠ g1 by omega) _).far (p := ⟨g2, tt, none⟩) (show w.heap.size + 1 ≠ g2 by omega) _, ((HKX.out.below h3 hltX).far (p := ⟨g1, tt, none⟩) (show X ≠ g1 by omega) _).far (p := ⟨g2, tt, none⟩) (show X ≠ g2 by omega) _, ?_, ?_⟩
                · rw [HNP.out, hx2]; exact o3
                · rw [HNP.out, hx2]; exact o2
              have FINY := Lib.hid finy
              clear finy
              cases T with
              | none =>
                simp only [Option.getD_none, Option.isSome_none] at ct dt
                have HI : Hid (impS Q Q a = true) := Lib.hid hI
                clear hI hbf
                go_wp2_with fail
                go_quiet (fail)
                go_wp2_with fail
                go_region
                all_goals
                  go_wp2_with fail
                  go_roundw
                case rel => exact FINY.out _ (below_drewN hbx.out _) HI.out
                case measure => simp [intOf]; omega
              | some z =>
                simp only [Option.getD_some, Option.isSome_some] at ct dt
                by_cases hlt3 : x + ae < z
                · have HI : Hid (impS Q Q a = true) := Lib.hid (by rw [hI]; unfold bestO; simp; omega)
                  clear hI hbf
                  go_wp2_with fail
                  go_quiet (fail)
                  go_wp2_with fail
                  go_region
                  all_goals
                    go_wp2_with fail
                    go_roundw
                  case rel => exact FINY.out _ (below_drewN hbx.out _) HI.out
                  case measure => simp [intOf]; omega
                · have HI : Hid (impS Q Q a = false) := Lib.hid (by rw [hI]; unfold bestO; simp; omega)
                  clear hI hbf
                  go_wp2_with fail
                  go_quiet (fail)
                  go_wp2_with fail
                  go_roundw
                  case rel =>
                    simp only [show decide ((r : Int) < (N : Int) + 1) = true from decide_eq_true (by omega)]
                    (repeat apply Exists.intro)
                    exact ⟨FIN.out _ (below_drewN hbx.out _) HI.out, rfl⟩
                  case measure => simp [intOf]; omega
          · obtain rfl : k = n := by omega
            have htl : l.take k = l := by rw [← HL.out, List.take_length]
            rw [htl] at ho1 ho2 ⊢
            obtain ⟨bt, hbt⟩ : ∃ bt, bt = chgP (progO l N s r) l := ⟨_, rfl⟩
            rw [← hbt]
            have hlz := hb.size
            have e0 := hk1.cell 0
            have e1 := hk1.cell 1
            have e2 := hkx.cell 0
            have e3 := hkx.cell 1
            have HB := Lib.hid hb
            have HK0 := Lib.hid hk0
            have HK1 := Lib.hid hk1
            have HKX := Lib.hid hkx
            have HO1 := Lib.hid ho1
            have HO2 := Lib.hid ho2
            clear hb hk0 hk1 hkx ho1 ho2
            have hltb : decide ((r : Int) < (N : Int) + 1) = true := decide_eq_true (by omega)
            cases bt with
            | true =>
              have HBT := Lib.hid hbt
              clear hbt
              go_wp2_with fail
              go_roundw
              case rel => exact ⟨r + 1, by omega, by go_num, HB.out, HK0.out, HK1.out, HKX.out, by exact HO1.out, by exact HO2.out, fun q hq => by
                rcases Nat.lt_succ_iff_lt_or_eq.1 hq with h | h
                · exact HCH.out q h
                · rw [h]; exact HBT.out.symm⟩
              case measure => simp [intOf]; omega
            | false =>
              have HBT := Lib.hid hbt
              clear hbt
              have f0 := HK1.out.frozen 0
              have f1 := HK1.out.frozen 1
              go_wp2_with fail
              have hv0 := ((HK1.out.put 0 (.slice (some ⟨g1, 0, none⟩) N N)).put 1 (.slice (some ⟨g2, 0, none⟩) N N)).cell 0
              have hv1 := ((HK1.out.put 0 (.slice (some ⟨g1, 0, none⟩) N N)).put 1 (.slice (some ⟨g2, 0, none⟩) N N)).cell 1
              refine bodyPost_ret (v := .tuple #[.agg #[.slice (some ⟨g1, 0, none⟩) N N, .slice (some ⟨g2, 0, none⟩) N N], .bool true]) (by simp [results, Try.results59, go_sem, hv0, hv1]) rfl ?_
              have hok : fromOk l N s = true := by
                unfold fromOk
                rw [List.any_eq_true]
                exact ⟨r, List.mem_range.2 (by omega), by rw [← HBT.out]; rfl⟩
              rw [hok]
              refine ⟨some ⟨g1, 0, none⟩, some ⟨g2, 0, none⟩, progO l N s (r + 1), rfl, (HB.out.setCell (p := ⟨w.heap.size + 1, 0, none⟩) (show w.heap.size ≤ w.heap.size + 1 by omega) _).setCell (p := ⟨w.heap.size + 1, 1, none⟩) (show w.heap.size ≤ w.heap.size + 1 by omega) _,
                ((HO1.out.far (p := ⟨w.heap.size + 1, 0, none⟩) (show some g1 ≠ some (w.heap.size + 1) by simp; omega) _).far (p := ⟨w.heap.size + 1, 1, none⟩) (show some g1 ≠ some (w.heap.size + 1) by simp; omega) _).weaken (by omega),
                ((HO2.out.far (p := ⟨w.heap.size + 1, 0, none⟩) (show some g2 ≠ some (w.heap.size + 1) by simp; omega) _).far (p := ⟨w.heap.size + 1, 1, none⟩) (show some g2 ≠ some (w.heap.size + 1) by simp; omega) _).weaken (by omega), progO_length _ _ _ _, fun _ => ?_⟩
              have hsame : progO l N s (r + 1) = progO l N s r := chgP_no _ _ HBT.out.symm
              rw [hsame]
              exact ⟨r, by omega, rfl, HBT.out.symm⟩
      · obtain rfl : r = N + 1 := by omega
        have e2 := hkx.cell 0
        have e3 := hkx.cell 1
        have e0 := hk1.cell 0
        have e1 := hk1.cell 1
        have f0 := hk1.frozen 0
        have f1 := hk1.frozen 1
        have HB := Lib.hid hb
        have HO1 := Lib.hid ho1
        have HO2 := Lib.hid ho2
        have HK1 := Lib.hid hk1
        clear hb hk0 hk1 hkx ho1 ho2
        go_wp2_with fail
        have hv0 := ((HK1.out.put 0 (.slice (some ⟨g1, 0, none⟩) N N)).put 1 (.slice (some ⟨g2, 0, none⟩) N N)).cell 0
        have hv1 := ((HK1.out.put 0 (.slice (some ⟨g1, 0, none⟩) N N)).put 1 (.slice (some ⟨g2, 0, none⟩) N N)).cell 1
        refine bodyPost_ret (v := .tuple #[.agg #[.slice (some ⟨g1, 0, none⟩) N N, .slice (some ⟨g2, 0, none⟩) N N], .bool false]) (by simp [results, Try.results59, go_sem, hv0, hv1]) rfl ?_
        have hok : fromOk l N s = false := by
          unfold fromOk
          rw [List.any_eq_false]
          intro q hq
          rw [HCH.out q (List.mem_range.1 hq)]
          simp
        rw [hok]
        exact ⟨some ⟨g1, 0, none⟩, some ⟨g2, 0, none⟩, progO l N s (N + 1), rfl, (HB.out.setCell (p := ⟨w.heap.size + 1, 0, none⟩) (show w.heap.size ≤ w.heap.size + 1 by omega) _).setCell (p := ⟨w.heap.size + 1, 1, none⟩) (show w.heap.size ≤ w.heap.size + 1 by omega) _,
          ((HO1.out.far (p := ⟨w.heap.size + 1, 0, none⟩) (show some g1 ≠ some (w.heap.size + 1) by simp; omega) _).far (p := ⟨w.heap.size + 1, 1, none⟩) (show some g1 ≠ some (w.heap.size + 1) by simp; omega) _).weaken (by omega),
          ((HO2.out.far (p := ⟨w.heap.size + 1, 0, none⟩) (show some g2 ≠ some (w.heap.size + 1) by simp; omega) _).far (p := ⟨w.heap.size + 1, 1, none⟩) (show some g2 ≠ some (w.heap.size + 1) by simp; omega) _).weaken (by omega), progO_length _ _ _ _, fun h => by cases h⟩
theorem short_from (N s : Nat) (A : Option Addr) (n c : Nat) (l : List Arc) (w : World) (hl : l.length = n) (hg : ∀ a ∈ l, GoodA N a) (hN : N ≤ 10) (hn : n ≤ 30) (hs : s < N) (hr : Els w w.heap.size 4 Arc.cells A l) :
    Calls Try.prog 59 #[.agg #[.int .i64 N, .slice A n c], .int .i64 s] w fun e w' => ∃ A1 A2 O, e = .returned (.tuple #[.agg #[.slice A1 N N, .slice A2 N N], .bool (fromOk l N s)]) ∧ Below w.heap.size w w' ∧
      Els w' w'.heap.size 1 icell A1 (farL O) ∧ Els w' w'.heap.size 1 bcell A2 (thereL O) ∧ O.length = N ∧ (fromOk l N s = true → ∃ r, r ≤ N ∧ O = progO l N s r ∧ chgP O l = false) :=
  (short_from_own N s A n c l w hl hg hN hn hs hr).mono fun _ _ ⟨A1, A2, O, h1, h2, h3, h4, h5, h6⟩ => ⟨A1, A2, O, h1, h2, h3.els, h4.els, h5, h6⟩
end Go.Proofs.Ytfaifadfilndmaa
