/- A net and what goes: how much more may go by a step, and what it costs. Conditions: the arcs and what goes read as lists. -/
import Derived.Test.YtjkfogkpacmdlaaFeeLeast7
import Derived.Test.YtjkfogkpacmdlaaFeeLeast9
import Derived.Test.YtjkfogkpacmdlaaFeeLeast10
import Derived.Test.YtjkfogkpacmdlaaFeeLeast11
import Derived.BigQuiet
import Derived.IntWalk
namespace Go.Proofs.Ytjkfogkpacmdlaa
open Go.RowKit

/-- A step's room, and its two ends. -/
def roomS (a : Arc) (g : Int) (b : Bool) : Int := if b then g else a.m - g
def fromS (a : Arc) (b : Bool) : Int := if b then a.t else a.f
def toS (a : Arc) (b : Bool) : Int := if b then a.f else a.t
def costS (a : Arc) (b : Bool) : Int := if b then -a.e else a.e
/-- A net that is open: its pointer. -/
def Opened (W : World) (B P : Nat) (N : Nat) (A : Option Addr) (m c : Nat) (G : Option Addr) (cg : Nat) (l : List Arc) (gs : List Int) : Prop :=
  Blk W P 80 #[.int .i64 N, .slice A m c, .slice G m cg] ∧ Els W B 4 Arc.cells A l ∧ Els W B 1 icell G gs ∧ l.length = m ∧ gs.length = m
theorem Opened.below {W W' : World} {B P N : Nat} {A : Option Addr} {m c : Nat} {G : Option Addr} {cg : Nat} {l : List Arc} {gs : List Int} (h : Opened W B P N A m c G cg l gs) (hb : Below B W W') (hP : P < B) : Opened W' B P N A m c G cg l gs :=
  ⟨h.1.below hb hP, h.2.1.below hb, h.2.2.1.below hb, h.2.2.2⟩
theorem Opened.drew {W : World} {B P N : Nat} {A : Option Addr} {m c : Nat} {G : Option Addr} {cg : Nat} {l : List Arc} {gs : List Int} (h : Opened W B P N A m c G cg l gs) : Opened W.drew B P N A m c G cg l gs :=
  ⟨h.1.drew, h.2.1.below (Below.refl B W).drew, h.2.2.1.below (Below.refl B W).drew, h.2.2.2⟩

set_option maxRecDepth 100000 in
set_option maxHeartbeats 1000000 in
theorem flow_Room (B P N : Nat) (A : Option Addr) (m c : Nat) (G : Option Addr) (cg : Nat) (l : List Arc) (gs : List Int) (i : Nat) (b : Bool) (w : World) (h : Opened w B P N A m c G cg l gs) (hi : i < m) (hm : m ≤ 100000) (hP : P < w.heap.size) (hB : B ≤ w.heap.size) (hw : 0 ≤ gs.getD i 0 ∧ gs.getD i 0 ≤ (l.getD i ⟨0, 0, 0, 0⟩).m ∧ (l.getD i ⟨0, 0, 0, 0⟩).m ≤ 1048576) :
    Calls Try.prog 32 #[.pointer (some ⟨P, 0, none⟩), .agg #[.int .i64 i, .bool b]] w fun e w' => e = .returned (.tuple #[.int .i64 (roomS (l.getD i ⟨0, 0, 0, 0⟩) (gs.getD i 0) b), .int .i64 (fromS (l.getD i ⟨0, 0, 0, 0⟩) b), .int .i64 (toS (l.getD i ⟨0, 0, 0, 0⟩) b)]) ∧ Below w.heap.size w w' := by
  obtain ⟨hk, hra, hrg, hl, hg⟩ := h
  obtain ⟨b0, off0, rfl, hb0, a0, a1, a2, a3⟩ := (hra.below ((Below.refl B w).alloc hB (.cells #[.int .i64 i, .bool b] 77))).at4 (k := i) (by rw [hl]; exact hi)
  obtain ⟨b1, off1, rfl, hb1, g0⟩ := (hrg.below ((Below.refl B w).alloc hB (.cells #[.int .i64 i, .bool b] 77))).at1 (k := i) (by rw [hg]; exact hi)
  rw [← getD_at l i (by rw [hl]; exact hi) ⟨0, 0, 0, 0⟩] at a0 a1 a2 a3
  rw [← getD_at gs i (by rw [hg]; exact hi) 0] at g0
  obtain ⟨a, ha⟩ : ∃ a, a = l.getD i ⟨0, 0, 0, 0⟩ := ⟨_, rfl⟩
  obtain ⟨g, hgg⟩ : ∃ g, g = gs.getD i 0 := ⟨_, rfl⟩
  rw [← ha] at a0 a1 a2 a3 hw ⊢
  rw [← hgg] at g0 hw ⊢
  obtain ⟨af, at_, am, ae⟩ := a
  simp only at hw
  have hk1 := hk.alloc (.cells #[.int .i64 i, .bool b] 77)
  have hs1 := Blk.new w 77 #[.int .i64 i, .bool b]
  obtain ⟨V, hV⟩ : ∃ V, V = w.alloc (.cells #[.int .i64 i, .bool b] 77) := ⟨_, rfl⟩
  have hzV : V.heap.size = w.heap.size + 1 := by rw [hV, size_alloc']
  rw [← hV] at a0 a1 a2 a3 g0 hk1 hs1
  have HZV := Lib.hid hzV
  have HF : Hid (∀ w', Below V.heap.size V w' → w'.cell? ⟨b0, off0 + i * 4, none⟩ = some (.int .i64 af) ∧ w'.cell? ⟨b0, off0 + i * 4 + 1, none⟩ = some (.int .i64 at_) ∧ w'.cell? ⟨b0, off0 + i * 4 + 2, none⟩ = some (.int .i64 am) ∧ w'.cell? ⟨b0, off0 + i * 4 + 3, none⟩ = some (.int .i64 ae) ∧ w'.cell? ⟨b1, off1 + i, none⟩ = some (.int .i64 g) ∧
      w'.cell? ⟨P, 0, none⟩ = some (.int .i64 N) ∧ w'.cell? ⟨P, 1, none⟩ = some (.slice (some ⟨b0, off0, none⟩) m c) ∧ w'.cell? ⟨P, 2, none⟩ = some (.slice (some ⟨b1, off1, none⟩) m cg) ∧ w'.cell? ⟨w.heap.size, 0, none⟩ = some (.int .i64 i) ∧ w'.cell? ⟨w.heap.size, 1, none⟩ = some (.bool b)) := Lib.hid (fun w' hb =>
    ⟨(hb.cell (by show b0 < _; omega)).trans a0, (hb.cell (by show b0 < _; omega)).trans a1, (hb.cell (by show b0 < _; omega)).trans a2, (hb.cell (by show b0 < _; omega)).trans a3, (hb.cell (by show b1 < _; omega)).trans g0,
      (hk1.below hb (by omega)).cell 0, (hk1.below hb (by omega)).cell 1, (hk1.below hb (by omega)).cell 2, (hs1.below hb (by omega)).cell 0, (hs1.below hb (by omega)).cell 1⟩)
  have HB1 := Lib.hid (show Below w.heap.size w V by rw [hV]; exact (Below.refl w.heap.size w).alloc (Nat.le_refl _) _)
  have HVV := Lib.hid hV
  clear ha hgg hra hrg hk hk1 hs1 hl hg a0 a1 a2 a3 g0 hV hzV
  go_enter Try.func32, Try.ntmps32
  go_wp2_with fail
  rw [← HVV.out]
  clear HVV
  refine region_plain 99 11 (fun w' => Below V.heap.size V w') (by kernel_rfl) rfl ?_
  refine anyC_reads (by kernel_rfl) [0, 1, 2, 3, 4, 5, 6, 7, 8] ?opl ?ohl 2 _ _ _ (by kernel_rfl) ?okk
  case ohl => (simp only [List.filterMap_cons, List.filterMap_nil, List.getElem?_toArray, List.getElem?_cons_zero, List.getElem?_cons_succ]; try rfl)
  repeat (
    refine readC_step (v := ?_) rfl (fun w' hw' => ?_) ?_
    rotate_left
    focus (obtain ⟨q0, q1, q2, q3, q4, q5, q6, q7, q8, q9⟩ := HF.out w' hw'; go_simp; try with_reducible rfl)
    go_simp)
  refine readC_nil ?_
  refine anyC_one (i := 9) (by kernel_rfl) rfl rfl (.inr (Below.refl _ V).drew) ?_
  go_simp
  refine anyC_one (i := 10) (by kernel_rfl) rfl rfl (.inr ((Below.refl _ V).alloc (Nat.le_refl _) _).drew) ?_
  go_simp
  refine anyC_end (by kernel_rfl) (.inr ((Below.refl _ V).alloc (Nat.le_refl _) _).drew) ?_
  have hbx := ((Below.refl V.heap.size V).alloc (Nat.le_refl _) (.cells #[.int .i64 af, .int .i64 at_, .int .i64 am, .int .i64 ae] 45)).drew
  have hkx := (Blk.new V 45 #[.int .i64 af, .int .i64 at_, .int .i64 am, .int .i64 ae]).drew
  obtain ⟨X, hX⟩ : ∃ X, X = (V.alloc (.cells #[.int .i64 af, .int .i64 at_, .int .i64 am, .int .i64 ae] 45)).drew := ⟨_, rfl⟩
  rw [← hX] at hbx hkx ⊢
  obtain ⟨Z, hZ⟩ : ∃ Z, Z = V.heap.size := ⟨_, rfl⟩
  obtain ⟨q0, q1, q2, q3, q4, q5, q6, q7, q8, q9⟩ := HF.out X hbx
  rw [← hZ] at hkx ⊢
  have x0 := hkx.cell 0
  have x1 := hkx.cell 1
  have x2 := hkx.cell 2
  have HBX := Lib.hid (HB1.out.trans (hbx.mono (by rw [HZV.out]; omega)))
  clear hbx hkx hX hZ HF HZV HB1
  cases b with
  | true =>
    go_wp2_with fail
    go_quiet (fail)
    go_wp2_with fail
    refine bodyPost_ret (v := .tuple #[.int .i64 g, .int .i64 at_, .int .i64 af]) (by simp [results, Try.results32, go_sem]) rfl ?_
    exact ⟨rfl, below_drewN HBX.out _⟩
  | false =>
    have hwm : IntKind.i64.wrap (am - g) = am - g := IntWalk.i64_in _ (by omega)
    go_wp2_with fail
    go_quiet (fail)
    go_wp2_with fail
    refine bodyPost_ret (v := .tuple #[.int .i64 (am - g), .int .i64 af, .int .i64 at_]) (by simp [results, Try.results32, go_sem]) rfl ?_
    exact ⟨rfl, below_drewN HBX.out _⟩

set_option maxRecDepth 100000 in
set_option maxHeartbeats 1000000 in
theorem flow_Open (N : Nat) (A : Option Addr) (m c : Nat) (w : World) (hm : m ≤ 100000) :
    Calls Try.prog 29 #[.agg #[.int .i64 N, .slice A m c]] w fun e w' => ∃ P g, e = .returned (.pointer (some ⟨P, 0, none⟩)) ∧ Below w.heap.size w w' ∧ w.heap.size ≤ P ∧ w.heap.size ≤ g ∧ g ≠ P ∧
      Blk w' P 80 #[.int .i64 N, .slice A m c, .slice (some ⟨g, 0, none⟩) m m] ∧ Own w' w.heap.size 2 1 icell (some ⟨g, 0, none⟩) m (List.replicate m 0) ∧ Blk w' g 2 (madeCells #[.int .i64 0] m) := by
  have hi1 : (Try.prog.info? 2).map (fun i => (i.zero, i.size, i.bytes)) = some (some (.int .i64 0), 1, 8) := rfl
  obtain ⟨i1, a1, b1, c1, d1⟩ := info_parts hi1
  have hm1 : ∀ W : World, (Instr.makeSlice 40 (.int .i64 m) (.int .i64 m)).run Try.prog W = .ok (.slice (some ⟨W.heap.size, 0, none⟩) m m) (W.alloc (.cells (madeCells #[.int .i64 0] m) 2)) := fun W => by
    have := run_make (P := Try.prog) W 40 2 i1 (.int .i64 0) (by kernel_rfl) a1 b1 .i64 .i64 m m (by omega) (Int.le_refl _) (by rw [d1]; omega) (by omega)
    rw [c1, Nat.mul_one, show (Value.int .i64 0).cells = #[Value.int .i64 0] from rfl] at this
    simpa using this
  clear hi1 a1 b1 c1 d1
  have hk1 := Blk.new w 39 #[.int .i64 N, .slice A m c]
  obtain ⟨V, hV⟩ : ∃ V, V = w.alloc (.cells #[.int .i64 N, .slice A m c] 39) := ⟨_, rfl⟩
  rw [← hV] at hk1
  have HK := Lib.hid hk1
  have hzV : Hid (V.heap.size = w.heap.size + 1) := Lib.hid (by rw [hV, size_alloc'])
  have HB1 := Lib.hid (show Below w.heap.size w V by rw [hV]; exact (Below.refl w.heap.size w).alloc (Nat.le_refl _) _)
  have HVV := Lib.hid hV
  obtain ⟨Q, hQ⟩ : ∃ Q, Q = w.heap.size := ⟨_, rfl⟩
  have HQ := Lib.hid hQ
  rw [← hQ] at hk1
  have HF : Hid (∀ w', Below V.heap.size V w' → w'.cell? ⟨Q, 0, none⟩ = some (.int .i64 N) ∧ w'.cell? ⟨Q, 1, none⟩ = some (.slice A m c)) := Lib.hid (fun w' hb => ⟨(hk1.below hb hk1.lt).cell 0, (hk1.below hb hk1.lt).cell 1⟩)
  clear hk1 hV hQ
  go_enter Try.func29, Try.ntmps29
  go_wp2_with fail
  rw [← HVV.out, ← HQ.out]
  refine region_plain 99 8 (fun w' => Below V.heap.size V w') (by kernel_rfl) rfl ?_
  refine anyC_reads (by kernel_rfl) [0, 1, 2, 3] ?opl ?ohl 4 _ _ _ (by kernel_rfl) ?okk
  case ohl => (simp only [List.filterMap_cons, List.filterMap_nil, List.getElem?_toArray, List.getElem?_cons_zero, List.getElem?_cons_succ]; try rfl)
  repeat (
    refine readC_step (v := ?_) rfl (fun w' hw' => ?_) ?_
    rotate_left
    focus (obtain ⟨q0, q1⟩ := HF.out w' hw'; go_simp; try with_reducible rfl)
    go_simp)
  refine readC_nil ?_
  refine anyC_one (i := 4) (by kernel_rfl) rfl rfl (.inr (Below.refl _ V).drew) ?_
  go_simp
  have hg1 : Blk (V.alloc (.cells (madeCells #[.int .i64 0] m) 2)).drew V.heap.size 2 (madeCells #[.int .i64 0] m) := (Blk.new V _ _).drew
  have hbx := ((Below.refl V.heap.size V).alloc (Nat.le_refl _) (.cells (madeCells #[.int .i64 0] m) 2)).drew
  refine anyC_reads (by kernel_rfl) [5] ?opl2 ?ohl2 2 _ _ _ (by kernel_rfl) ?okk2
  case ohl2 => (simp only [List.filterMap_cons, List.filterMap_nil, List.getElem?_toArray, List.getElem?_cons_zero, List.getElem?_cons_succ]; try rfl)
  repeat (
    refine readC_step (v := ?_) rfl (fun w' hw' => ?_) ?_
    rotate_left
    focus (go_simp; try with_reducible rfl)
    go_simp)
  refine readC_nil ?_
  refine anyC_one (i := 6) (by kernel_rfl) rfl rfl (.inr hbx) ?_
  go_simp
  have hbx2 := (((Below.refl V.heap.size V).alloc (Nat.le_refl _) (.cells (madeCells #[.int .i64 0] m) 2)).alloc (by rw [size_alloc']; omega) (.cells #[.int .i64 N, .slice A m c, .slice (some ⟨V.heap.size, 0, none⟩) m m] 80)).drew
  refine anyC_reads (by kernel_rfl) [7] ?opl3 ?ohl3 0 _ _ _ (by kernel_rfl) ?okk3
  case ohl3 => (simp only [List.filterMap_cons, List.filterMap_nil, List.getElem?_toArray, List.getElem?_cons_zero, List.getElem?_cons_succ]; try rfl)
  repeat (
    refine readC_step (v := ?_) rfl (fun w' hw' => ?_) ?_
    rotate_left
    focus (go_simp; try with_reducible rfl)
    go_simp)
  refine readC_nil ?_
  refine anyC_end (by kernel_rfl) (.inr hbx2) ?_
  have hkx : Blk ((V.alloc (.cells (madeCells #[.int .i64 0] m) 2)).alloc (.cells #[.int .i64 N, .slice A m c, .slice (some ⟨V.heap.size, 0, none⟩) m m] 80)).drew (V.heap.size + 1) 80 #[.int .i64 N, .slice A m c, .slice (some ⟨V.heap.size, 0, none⟩) m m] := by
    have := Blk.new (V.alloc (.cells (madeCells #[.int .i64 0] m) 2)) 80 #[.int .i64 N, .slice A m c, .slice (some ⟨V.heap.size, 0, none⟩) m m]
    rw [size_alloc'] at this
    exact this.drew
  have hgx : Blk ((V.alloc (.cells (madeCells #[.int .i64 0] m) 2)).alloc (.cells #[.int .i64 N, .slice A m c, .slice (some ⟨V.heap.size, 0, none⟩) m m] 80)).drew V.heap.size 2 (madeCells #[.int .i64 0] m) := ((Blk.new V 2 (madeCells #[.int .i64 0] m)).alloc _).drew
  obtain ⟨X, hX⟩ : ∃ X, X = ((V.alloc (.cells (madeCells #[.int .i64 0] m) 2)).alloc (.cells #[.int .i64 N, .slice A m c, .slice (some ⟨V.heap.size, 0, none⟩) m m] 80)).drew := ⟨_, rfl⟩
  rw [← hX] at hbx2 hkx hgx ⊢
  clear hg1 hbx
  have hv := hzV.out
  have HKX := Lib.hid hkx
  have HGX := Lib.hid hgx
  have HBX := Lib.hid hbx2
  clear hkx hgx hbx2 hX hv
  go_wp2_with fail
  go_ret
  exact ⟨V.heap.size + 1, V.heap.size, rfl, HB1.out.trans (HBX.out.mono (by rw [hzV.out]; omega)), by rw [hzV.out]; omega, by rw [hzV.out]; omega, by omega, HKX.out, Own.block1 (f := fun x => .int .i64 x) (x0 := 0) HGX.out (by unfold maxLen; omega) (by rw [hzV.out]; omega), HGX.out⟩
end Go.Proofs.Ytjkfogkpacmdlaa
