/- A script is played. Conditions: workers, services and changes read as lists. -/
import Derived.Test.YtdinknpagklkjaaCrewPlays23
import Derived.Test.YtdinknpagklkjaaCrewPlays4
namespace Go.Proofs.Ytdinknpagklkjaa
open Go.RowKit
attribute [local go_sem ↓] w_and w_or w_xor w_andNot w_and1 w_and255 w_xor1 w_or0 w_shl w_shl1 w_shr w_sub w_add w_sub1 w_add1
attribute [local go_sem] w_eq0 w_ne0 w_eq1 w_eq w_ne
attribute [local go_sem] Oper.semAt_some

abbrev chcell (x : Chg) : List Value := [.int .i64 x.1, .int .i64 x.2.1, .int .i64 x.2.2]
abbrev crewZ : Value := .agg #[.slice none 0 0, .int .u32 0, .slice none 0 0, .slice none 0 0]
def playE (ws : List Wk) (m L : Nat) : Int := if placeCheck ws m ≠ 0 then placeCheck ws m else if 64 < L then 1 else 0
set_option maxRecDepth 100000 in
set_option maxHeartbeats 1000000 in
theorem crew_Play_bad (A B C : Option Addr) (W cA m cB L cC : Nat) (ws : List Wk) (w : World) (hW : ws.length = W) (hWm : W ≤ maxLen) (hmm : m ≤ maxLen) (hLm : L ≤ maxLen) (hws : Els w w.heap.size 2 wkcell A ws) (he : playE ws m L ≠ 0) :
    Calls Try.prog 12 #[.slice A W cA, .slice B m cB, .slice C L cC] w fun e w' => e = .returned (.tuple #[crewZ, .int .i64 (playE ws m L)]) ∧ Below w.heap.size w w' := by
  obtain ⟨S, hS⟩ : ∃ S, S = w.heap.size := ⟨_, rfl⟩
  have hk := Blk.new w 30 #[.slice none 0 0, .int .u32 0, .slice none 0 0, .slice none 0 0]
  have hb := (Below.refl w.heap.size w).alloc (Nat.le_refl _) (.cells #[.slice none 0 0, .int .u32 0, .slice none 0 0, .slice none 0 0] 30)
  have hz : (w.alloc (.cells #[.slice none 0 0, .int .u32 0, .slice none 0 0, .slice none 0 0] 30)).heap.size = S + 1 := by rw [size_alloc', hS]
  obtain ⟨V, hV⟩ : ∃ V, V = w.alloc (.cells #[.slice none 0 0, .int .u32 0, .slice none 0 0, .slice none 0 0] 30) := ⟨_, rfl⟩
  rw [← hV] at hk hb hz
  rw [← hS] at hk hb
  have HE := Lib.hid (place_Check A B W cA m cB ws V hW hWm ((hws.below (by rw [← hS]; exact hb)).more (by omega)) hmm)
  have HK := Lib.hid hk
  have HB := Lib.hid hb
  have HS := Lib.hid hS
  have HV := Lib.hid hV
  have HZ := Lib.hid hz
  have hpe : playE ws m L = if placeCheck ws m ≠ 0 then placeCheck ws m else if 64 < L then 1 else 0 := rfl
  clear hk hb hS hV hz hws hW
  by_cases hx : placeCheck ws m = 0
  · rw [if_neg (by omega)] at hpe
    have hL : 64 < L := by
      rcases Nat.lt_or_ge 64 L with h | h
      · exact h
      · rw [if_neg (by omega)] at hpe; omega
    rw [if_pos hL] at hpe
    rw [hpe]
    rw [hx] at HE
    clear hpe he hx
    go_enter Try.func12, Try.ntmps12
    go_wp2_with fail
    rw [← HV.out]
    refine HE.out.mono ?_
    clear HE
    rintro e v1 ⟨rfl, hb1⟩
    have hk1 := HK.out.below hb1 (by rw [HZ.out]; omega)
    have c0 := hk1.cell 0
    have c1 := hk1.cell 1
    have c2 := hk1.cell 2
    have c3 := hk1.cell 3
    have f0 := hk1.frozen 0
    have f1 := hk1.frozen 1
    have f2 := hk1.frozen 2
    have f3 := hk1.frozen 3
    have HB1 := Lib.hid (HB.out.trans (hb1.mono (by rw [HZ.out]; omega)))
    have HK1 := Lib.hid hk1
    clear hk1 hb1
    rw [← HS.out]
    go_wp2_with fail
    have hk9 := (((HK1.out.put 0 (.slice none 0 0)).put 1 (.int .u32 0)).put 2 (.slice none 0 0)).put 3 (.slice none 0 0)
    have hb9 := (((HB1.out.setCell (p := ⟨S, 0, none⟩) (Nat.le_refl _) (.slice none 0 0)).setCell (p := ⟨S, 1, none⟩) (Nat.le_refl _) (.int .u32 0)).setCell (p := ⟨S, 2, none⟩) (Nat.le_refl _) (.slice none 0 0)).setCell (p := ⟨S, 3, none⟩) (Nat.le_refl _) (.slice none 0 0)
    obtain ⟨W9, hW9⟩ : ∃ W9, W9 = ((((v1.setCell ⟨S, 0, none⟩ (.slice none 0 0)).setCell ⟨S, 1, none⟩ (.int .u32 0)).setCell ⟨S, 2, none⟩ (.slice none 0 0)).setCell ⟨S, 3, none⟩ (.slice none 0 0)) := ⟨_, rfl⟩
    rw [← hW9] at hk9 hb9 ⊢
    have e0 := hk9.cell 0
    have e1 := hk9.cell 1
    have e2 := hk9.cell 2
    have e3 := hk9.cell 3
    clear hW9
    refine bodyPost_ret (v := .tuple #[crewZ, .int .i64 1]) ?_ rfl ⟨rfl, by rw [← HS.out]; exact hb9⟩
    simp [results, Try.results12, go_sem, e0, e1, e2, e3]
  · rw [if_pos hx] at hpe
    rw [hpe]
    clear hpe he
    have h1 : (placeCheck ws m != 0) = true := by simpa using hx
    generalize placeCheck ws m = x at HE h1 hx ⊢
    clear hx
    go_enter Try.func12, Try.ntmps12
    go_wp2_with fail
    rw [← HV.out]
    refine HE.out.mono ?_
    clear HE
    rintro e v1 ⟨rfl, hb1⟩
    have hk1 := HK.out.below hb1 (by rw [HZ.out]; omega)
    have c0 := hk1.cell 0
    have c1 := hk1.cell 1
    have c2 := hk1.cell 2
    have c3 := hk1.cell 3
    have f0 := hk1.frozen 0
    have f1 := hk1.frozen 1
    have f2 := hk1.frozen 2
    have f3 := hk1.frozen 3
    have HB1 := Lib.hid (HB.out.trans (hb1.mono (by rw [HZ.out]; omega)))
    have HK1 := Lib.hid hk1
    clear hk1 hb1
    rw [← HS.out]
    go_wp2_with fail
    have hk9 := (((HK1.out.put 0 (.slice none 0 0)).put 1 (.int .u32 0)).put 2 (.slice none 0 0)).put 3 (.slice none 0 0)
    have hb9 := (((HB1.out.setCell (p := ⟨S, 0, none⟩) (Nat.le_refl _) (.slice none 0 0)).setCell (p := ⟨S, 1, none⟩) (Nat.le_refl _) (.int .u32 0)).setCell (p := ⟨S, 2, none⟩) (Nat.le_refl _) (.slice none 0 0)).setCell (p := ⟨S, 3, none⟩) (Nat.le_refl _) (.slice none 0 0)
    obtain ⟨W9, hW9⟩ : ∃ W9, W9 = ((((v1.setCell ⟨S, 0, none⟩ (.slice none 0 0)).setCell ⟨S, 1, none⟩ (.int .u32 0)).setCell ⟨S, 2, none⟩ (.slice none 0 0)).setCell ⟨S, 3, none⟩ (.slice none 0 0)) := ⟨_, rfl⟩
    rw [← hW9] at hk9 hb9 ⊢
    have e0 := hk9.cell 0
    have e1 := hk9.cell 1
    have e2 := hk9.cell 2
    have e3 := hk9.cell 3
    clear hW9
    refine bodyPost_ret (v := .tuple #[crewZ, .int .i64 x]) ?_ rfl ⟨rfl, by rw [← HS.out]; exact hb9⟩
    simp [results, Try.results12, go_sem, e0, e1, e2, e3]
theorem crew_start {X : World} {lo P m gw gt : Nat} {va vb : Value} (hk : Blk X P 92 #[va, vb, .slice none 0 0, .int .u32 0, .slice (some ⟨gw, 0, none⟩) m m, .slice (some ⟨gt, 0, none⟩) m m]) (hw : Blk X gw 3 (madeCells #[.int .i64 0] m)) (ht : Blk X gt 27 (madeCells #[.slice none 0 0] m)) (hm : m ≤ maxLen) (h1 : lo ≤ P) (h2 : lo ≤ gw) (h3 : lo ≤ gt) :
    CrewIn X lo P va vb m gw gt none 0 (List.replicate m ⟨none, 0, []⟩) (startF m) := by
  have hrw : ∀ j, rwAt (List.replicate m (⟨none, 0, []⟩ : Sls Int)) j = ⟨none, 0, []⟩ := fun j => by
    unfold rwAt
    rw [List.getD_eq_getElem?_getD, List.getElem?_replicate]
    split <;> rfl
  refine ⟨hk, Own.nil _ _ _ (fun _ => rfl), Own.block1 (f := fun x : Int => .int .i64 x) (x0 := 0) hw hm h2, Own.block1 (f := fun s : Sls Int => s.val) (x0 := ⟨none, 0, []⟩) ht hm h3, ?_, fun j _ => ?_, fun i j _ _ _ g hg => ?_, fun j _ => ?_, h1, List.length_replicate, List.length_replicate⟩
  · simp [startF]
  · rw [hrw]; exact Own.nil _ _ _ (fun _ => rfl)
  · rw [hrw] at hg; cases hg
  · rw [hrw]; simp [blkOf]
theorem CrewIn.kept {w w2 : World} {lo P m gw gt kc q : Nat} {vw vs : Value} {Ac : Option Addr} {rows : List (Sls Int)} {c : Cw} (h : CrewIn w lo P vw vs m gw gt Ac kc rows c) (hg : w.grownBy w2 (some q)) (hq : q < lo) : CrewIn w2 lo P vw vs m gw gt Ac kc rows c := by
  have hf : ∀ {α : Type} {cc cap : Nat} {e : TypeId} {f : α → List Value} {A : Option Addr} {l : List α}, Own w lo e cc f A cap l → Own w2 lo e cc f A cap l := fun {α cc cap e f A l} ho => by
    refine ho.kept hg ?_
    cases hA : blkOf A with
    | none => exact .inl rfl
    | some g =>
      refine .inr fun e => ?_
      have := (ho.lt g hA).1
      have : g = q := by simpa using e
      omega
  exact ⟨h.blk.grown hg (fun e => by
    have h5 := h.hlo
    have h6 : P = q := by simpa using e
    omega), hf h.cod, hf h.wnt, hf h.tab, h.tsk, fun j hj => hf (h.row j hj), h.far, h.nw, h.hlo, h.rl, h.wl⟩
theorem CrewIn.weaken {w : World} {lo lo' P m gw gt kc : Nat} {vw vs : Value} {Ac : Option Addr} {rows : List (Sls Int)} {c : Cw} (h : CrewIn w lo P vw vs m gw gt Ac kc rows c) (hl : lo' ≤ lo) : CrewIn w lo' P vw vs m gw gt Ac kc rows c :=
  ⟨h.blk, h.cod.weaken hl, h.wnt.weaken hl, h.tab.weaken hl, h.tsk, fun j hj => (h.row j hj).weaken hl, h.far, h.nw, by have := h.hlo; omega, h.rl, h.wl⟩
theorem CrewIn.code {w w2 : World} {lo P m gw gt kc cap n : Nat} {vw vs : Value} {Ac A2 : Option Addr} {rows : List (Sls Int)} {c : Cw} {l : List Int} (h : CrewIn w lo P vw vs m gw gt Ac kc rows c) (ho : Own w2 lo 31 1 icell A2 cap l) (hg : w.grownBy w2 (blkOf Ac)) (hn : l.length = n) :
    CrewIn (w2.setCell ⟨P, 2, none⟩ (.slice A2 n cap)) lo P vw vs m gw gt A2 cap rows { c with codes := l } := by
  subst hn
  have hf : ∀ {α : Type} {cc cap : Nat} {e : TypeId} {f : α → List Value} {A : Option Addr} {l : List α}, Own w lo e cc f A cap l → e ≠ 31 → Own w2 lo e cc f A cap l := fun {α cc cap e f A l} ho he => by
    refine ho.kept hg ?_
    cases hA : blkOf A with
    | none => exact .inl rfl
    | some g =>
      refine .inr fun e => ?_
      obtain ⟨cur, hcur⟩ := own_cellsAt ho hA
      exact own_far_blk h.cod hcur (fun e => he e.symm) e.symm
  have hk := h.blk.grown hg (fun e => own_far_blk h.cod h.blk (by decide) e.symm)
  have hfar : ∀ {α : Type} {B cc cap : Nat} {e : TypeId} {f : α → List Value} {A : Option Addr} {l : List α}, Own w2 B e cc f A cap l → e ≠ 92 → Own (w2.setCell ⟨P, 2, none⟩ (.slice A2 l.length cap)) B e cc f A cap l := fun ho he =>
    ho.far (p := ⟨P, 2, none⟩) (fun e => own_far_blk ho hk he e) _
  have hfar : ∀ {α : Type} {B cc cap' : Nat} {e : TypeId} {f : α → List Value} {A : Option Addr} {l' : List α}, Own w2 B e cc f A cap' l' → e ≠ 92 → Own (w2.setCell ⟨P, 2, none⟩ (.slice A2 l.length cap)) B e cc f A cap' l' := fun ho he =>
    ho.far (p := ⟨P, 2, none⟩) (fun e => own_far_blk ho hk he e) _
  exact ⟨hk.put 2 _, hfar ho (by decide), hfar (hf h.wnt (by decide)) (by decide), hfar (hf h.tab (by decide)) (by decide), h.tsk, fun j hj => hfar (hf (h.row j hj) (by decide)) (by decide), h.far, h.nw, h.hlo, h.rl, h.wl⟩
theorem chg_codes (ws : List Wk) (svs : List (BitVec 32)) (c : Cw) (x : Chg) : (chgF ws svs c x).1.codes = c.codes := by
  unfold chgF
  split
  · rfl
  split
  · rfl
  by_cases h3 : x.1 = 3
  · rw [if_pos h3, if_pos h3]
    split
    · rfl
    split
    · rfl
    split <;> rfl
  · rw [if_neg h3, if_neg h3]
    split
    · rfl
    split
    · rfl
    split <;> rfl
/-- While a script is played: k changes done. -/
def PlayI (S P : Nat) (vw vs : Value) (m gw gt : Nat) (ws : List Wk) (svs : List (BitVec 32)) (script : List Chg) (w0' : World) (s43 : Value) (wr : World) : Prop :=
  ∃ (k : Nat) (Ac : Option Addr) (kc : Nat) (rows : List (Sls Int)), k ≤ script.length ∧ s43 = .int .i64 k ∧ Below (S + 1) w0' wr ∧ CrewIn wr (S + 1) P vw vs m gw gt Ac kc rows (playF ws svs (script.take k)) ∧ Blk wr S 30 #[.slice none 0 0, .int .u32 0, .slice none 0 0, .slice none 0 0]
set_option maxRecDepth 100000 in
set_option maxHeartbeats 2000000 in
theorem crew_Play (A B C : Option Addr) (W cA m cB L cC : Nat) (ws : List Wk) (svs : List (BitVec 32)) (script : List Chg) (w : World) (hW : ws.length = W) (hM : svs.length = m) (hL : script.length = L) (hws : Els w w.heap.size 2 wkcell A ws) (hts : Els w w.heap.size 1 wcell B svs) (hcs : Els w w.heap.size 3 chcell C script) (he : playE ws m L = 0) :
    Calls Try.prog 12 #[.slice A W cA, .slice B m cB, .slice C L cC] w fun e w' => Below w.heap.size w w' ∧ ∃ P gw gt Ac kc rows, CrewIn w' w.heap.size P (.slice A W cA) (.slice B m cB) m gw gt Ac kc rows (playF ws svs script) ∧ e = .returned (.tuple #[.agg #[.slice Ac L kc, .int .u32 (wN (playF ws svs script).inn), .slice (some ⟨gw, 0, none⟩) m m, .slice (some ⟨gt, 0, none⟩) m m], .int .i64 0]) := by
  obtain ⟨hx, hL64⟩ : placeCheck ws m = 0 ∧ L ≤ 64 := by
    unfold playE at he
    split at he
    · omega
    · split at he
      · omega
      · omega
  obtain ⟨hW6, hm12, hgood⟩ : W ≤ 6 ∧ m ≤ 12 ∧ ∀ k ∈ ws, 0 ≤ k.1 ∧ k.1 ≤ 12 := by
    have hx' := hx
    unfold placeCheck at hx'
    split at hx'
    · omega
    · split at hx'
      · omega
      · rename_i h1 h2
        refine ⟨by omega, by omega, fun k hk => ?_⟩
        have := List.any_eq_false.1 (by simpa using h2) k hk
        unfold badRoom at this
        simp at this
        omega
  obtain ⟨S, hS⟩ : ∃ S, S = w.heap.size := ⟨_, rfl⟩
  have hk := Blk.new w 30 #[.slice none 0 0, .int .u32 0, .slice none 0 0, .slice none 0 0]
  have hb := (Below.refl w.heap.size w).alloc (Nat.le_refl _) (.cells #[.slice none 0 0, .int .u32 0, .slice none 0 0, .slice none 0 0] 30)
  have hz : (w.alloc (.cells #[.slice none 0 0, .int .u32 0, .slice none 0 0, .slice none 0 0] 30)).heap.size = S + 1 := by rw [size_alloc', hS]
  obtain ⟨V, hV⟩ : ∃ V, V = w.alloc (.cells #[.slice none 0 0, .int .u32 0, .slice none 0 0, .slice none 0 0] 30) := ⟨_, rfl⟩
  rw [← hV] at hk hb hz
  rw [← hS] at hk hb hws hts hcs ⊢
  have HE := Lib.hid (place_Check A B W cA m cB ws V hW (by unfold maxLen; omega) ((hws.below hb).more (by omega)) (by unfold maxLen; omega))
  rw [hx] at HE
  have HK := Lib.hid hk
  have HB := Lib.hid hb
  have HS := Lib.hid hS
  have HV := Lib.hid hV
  have HZ := Lib.hid hz
  have HW := Lib.hid hW
  have HM := Lib.hid hM
  have HL := Lib.hid hL
  have HWS := Lib.hid hws
  have HTS := Lib.hid hts
  have HCS := Lib.hid hcs
  have HG := Lib.hid hgood
  clear hk hb hS hV hz hws hts hcs hW hM hL hgood he hx
  have hi1 : (Try.prog.info? 3).map (fun i => (i.zero, i.size, i.bytes)) = some (some (.int .i64 0), 1, 8) := rfl
  obtain ⟨i1, a1, b1, c1', d1⟩ := info_parts hi1
  have hmW : ∀ W : World, (Instr.makeSlice 27 (.int .i64 m) (.int .i64 m)).run Try.prog W = .ok (.slice (some ⟨W.heap.size, 0, none⟩) m m) (W.alloc (.cells (madeCells #[.int .i64 0] m) 3)) := fun W => by
    have := run_make (P := Try.prog) W 27 3 i1 (.int .i64 0) (by kernel_rfl) a1 b1 .i64 .i64 m m (by omega) (Int.le_refl _) (by rw [d1]; omega) (by omega)
    rw [c1', Nat.mul_one, show (Value.int .i64 0).cells = #[Value.int .i64 0] from rfl] at this
    simpa using this
  clear hi1 a1 b1 c1' d1
  have hi2 : (Try.prog.info? 27).map (fun i => (i.zero, i.size, i.bytes)) = some (some (.slice none 0 0), 1, 24) := rfl
  obtain ⟨i2, a2, b2, c2', d2⟩ := info_parts hi2
  have hmT : ∀ W : World, (Instr.makeSlice 28 (.int .i64 m) (.int .i64 m)).run Try.prog W = .ok (.slice (some ⟨W.heap.size, 0, none⟩) m m) (W.alloc (.cells (madeCells #[.slice none 0 0] m) 27)) := fun W => by
    have := run_make (P := Try.prog) W 28 27 i2 (.slice none 0 0) (by kernel_rfl) a2 b2 .i64 .i64 m m (by omega) (Int.le_refl _) (by rw [d2]; omega) (by omega)
    rw [c2', Nat.mul_one, show (Value.slice none 0 0).cells = #[Value.slice none 0 0] from rfl] at this
    simpa using this
  clear hi2 a2 b2 c2' d2
  go_enter Try.func12, Try.ntmps12
  go_wp2_with fail
  rw [← HV.out, ← HS.out]
  refine HE.out.mono ?_
  clear HE
  rintro e v1 ⟨rfl, hb1⟩
  have hz1 := hb1.size
  rw [HZ.out] at hz1
  obtain ⟨P, hP⟩ : ∃ P, P = v1.heap.size := ⟨_, rfl⟩
  have hSP : S < P := by omega
  have hk1 := (HK.out.below hb1 (by rw [HZ.out]; omega))
  have hb1' : Below (S + 1) V v1 := by rw [HZ.out] at hb1; exact hb1
  have hkP := Blk.new v1 92 #[.slice A W cA, .slice B m cB, .slice none 0 0, .int .u32 0, .slice none 0 0, .slice none 0 0]
  have hk2 := hk1.alloc (.cells #[.slice A W cA, .slice B m cB, .slice none 0 0, .int .u32 0, .slice none 0 0, .slice none 0 0] 92)
  have hb2 := hb1'.alloc (by omega) (.cells #[.slice A W cA, .slice B m cB, .slice none 0 0, .int .u32 0, .slice none 0 0, .slice none 0 0] 92)
  have hz2 : (v1.alloc (.cells #[.slice A W cA, .slice B m cB, .slice none 0 0, .int .u32 0, .slice none 0 0, .slice none 0 0] 92)).heap.size = P + 1 := by rw [size_alloc', hP]
  obtain ⟨V2, hV2⟩ : ∃ V2, V2 = v1.alloc (.cells #[.slice A W cA, .slice B m cB, .slice none 0 0, .int .u32 0, .slice none 0 0, .slice none 0 0] 92) := ⟨_, rfl⟩
  rw [← hV2] at hkP hk2 hb2 hz2
  rw [← hP] at hkP
  have HKP := Lib.hid hkP
  have HK2 := Lib.hid hk2
  have HB2 := Lib.hid hb2
  have HV2 := Lib.hid hV2
  have HP := Lib.hid hP
  clear hb1 hz1 hk1 hb1' hkP hk2 hb2 hV2 hP
  go_wp2_with fail
  rw [← HV2.out, ← HP.out]
  have hdz : V2.drew.heap.size = P + 1 := hz2
  have hlb : decide ((64 : Int) < (L : Int)) = false := decide_eq_false (by omega)
  have g4 := HKP.out.cell 4
  have g5 := HKP.out.cell 5
  have g4f := HKP.out.frozen 4
  have g5f := HKP.out.frozen 5
  refine region_plain 15 16 (fun _ => True) (by kernel_rfl) rfl ?_
  refine anyC_reads (by kernel_rfl) [0, 1, 2, 3, 5, 6] ?opa ?oha 10 _ _ _ (by kernel_rfl) ?oka
  case oha => (simp only [List.filterMap_cons, List.filterMap_nil, List.getElem?_toArray, List.getElem?_cons_zero, List.getElem?_cons_succ]; try rfl)
  repeat (
    refine readC_step (v := ?_) rfl (fun w' hw' => ?_) ?_
    rotate_left
    focus (clear hw'; go_simp; try with_reducible rfl)
    go_simp)
  refine readC_nil ?_
  refine anyD_two (i := 4) (j := 7) (by kernel_rfl) rfl rfl rfl rfl (.inr trivial) ?_ ?_
  · go_simp
    refine anyC_reads (by kernel_rfl) [8, 9, 10] ?opb ?ohb 6 _ _ _ (by kernel_rfl) ?okb
    case ohb => (simp only [List.filterMap_cons, List.filterMap_nil, List.getElem?_toArray, List.getElem?_cons_zero, List.getElem?_cons_succ]; try rfl)
    repeat (
      refine readC_step (v := ?_) rfl (fun w' hw' => ?_) ?_
      rotate_left
      focus (clear hw'; go_simp; try with_reducible rfl)
      go_simp)
    refine readC_nil ?_
    refine anyD_two (i := 7) (j := 11) (by kernel_rfl) rfl rfl rfl rfl (.inr trivial) ?_ ?_
    · go_simp
      refine anyC_one (i := 11) (by kernel_rfl) rfl rfl (.inr trivial) ?_
      go_simp
      refine anyC_reads (by kernel_rfl) [12, 13, 14] ?opc ?ohc 1 _ _ _ (by kernel_rfl) ?okc
      case ohc => (simp only [List.filterMap_cons, List.filterMap_nil, List.getElem?_toArray, List.getElem?_cons_zero, List.getElem?_cons_succ]; try rfl)
      repeat (
        refine readC_step (v := ?_) rfl (fun w' hw' => ?_) ?_
        rotate_left
        focus (clear hw'; go_simp; try with_reducible rfl)
        go_simp)
      refine readC_nil ?_
      refine anyC_one (i := 15) (by kernel_rfl) rfl rfl (.inr trivial) ?_
      go_simp
      refine anyC_end (by kernel_rfl) (.inl rfl) ?_
      go_wp2_with fail
      have hx1 := (HKP.out.put 4 (.slice (some ⟨P + 1, 0, none⟩) m m)).put 5 (.slice (some ⟨P + 1 + 1, 0, none⟩) m m)
      have hxz : ((V2.setCell ⟨P, 4, none⟩ (.slice (some ⟨P + 1, 0, none⟩) m m)).setCell ⟨P, 5, none⟩ (.slice (some ⟨P + 1 + 1, 0, none⟩) m m)).heap.size = P + 1 := by simpa using hdz
      have hxb := (HB2.out.setCell (p := ⟨P, 4, none⟩) (show S + 1 ≤ P by omega) (.slice (some ⟨P + 1, 0, none⟩) m m)).setCell (p := ⟨P, 5, none⟩) (show S + 1 ≤ P by omega) (.slice (some ⟨P + 1 + 1, 0, none⟩) m m)
      have hxk := (HK2.out.far (p := ⟨P, 4, none⟩) (by show S ≠ P; omega) (.slice (some ⟨P + 1, 0, none⟩) m m)).far (p := ⟨P, 5, none⟩) (by show S ≠ P; omega) (.slice (some ⟨P + 1 + 1, 0, none⟩) m m)
      obtain ⟨X, hX⟩ : ∃ X, X = (V2.setCell ⟨P, 4, none⟩ (.slice (some ⟨P + 1, 0, none⟩) m m)).setCell ⟨P, 5, none⟩ (.slice (some ⟨P + 1 + 1, 0, none⟩) m m) := ⟨_, rfl⟩
      rw [← hX] at hx1 hxz hxb hxk ⊢
      have ha1 := Blk.new X 3 (madeCells #[.int .i64 0] m)
      have ha2 := Blk.new (X.alloc (.cells (madeCells #[.int .i64 0] m) 3)) 27 (madeCells #[.slice none 0 0] m)
      rw [hxz] at ha1
      rw [size_alloc', hxz] at ha2
      have HC7 := Lib.hid (crew_start ((hx1.alloc (.cells (madeCells #[.int .i64 0] m) 3)).alloc (.cells (madeCells #[.slice none 0 0] m) 27)) (ha1.alloc (.cells (madeCells #[.slice none 0 0] m) 27)) ha2 (by unfold maxLen; omega) (show S + 1 ≤ P by omega) (by omega) (by omega))
      have HB7 := Lib.hid ((hxb.alloc (by omega) (.cells (madeCells #[.int .i64 0] m) 3)).alloc (by rw [size_alloc']; omega) (.cells (madeCells #[.slice none 0 0] m) 27))
      have HK7 := Lib.hid ((hxk.alloc (.cells (madeCells #[.int .i64 0] m) 3)).alloc (.cells (madeCells #[.slice none 0 0] m) 27))
      obtain ⟨W7, hW7⟩ : ∃ W7, W7 = (X.alloc (.cells (madeCells #[.int .i64 0] m) 3)).alloc (.cells (madeCells #[.slice none 0 0] m) 27) := ⟨_, rfl⟩
      rw [← hW7] at HC7 HB7 HK7 ⊢
      obtain ⟨gw, hgw⟩ : ∃ g, g = P + 1 := ⟨_, rfl⟩
      obtain ⟨gt, hgt⟩ : ∃ g, g = P + 1 + 1 := ⟨_, rfl⟩
      rw [← hgt] at HC7 ⊢
      rw [← hgw] at HC7 ⊢
      clear hx1 hxz hxb hxk hX ha1 ha2 hW7 hgw hgt g4 g5 g4f g5f hmW hmT hdz
      go_loopw [43] (fun s43 wr => PlayI S P (.slice A W cA) (.slice B m cB) m gw gt ws svs script V s43 wr) (fun s43 _ => L - (intOf s43).toNat)
      case atStart => exact ⟨0, none, 0, _, Nat.zero_le _, rfl, HB7.out.drew, by rw [List.take_zero]; unfold playF; rw [List.foldl_nil, HM.out]; exact HC7.out.drew, HK7.out.drew⟩
      case round =>
        clear HB7 HC7 HK7
        rename World => wr
        obtain ⟨k, Ac, kc, rows, hk, rfl, hb, h, hkR⟩ := hrel
        rw [HL.out] at hk
        by_cases hkL : k < L
        · have hkl : k < script.length := by rw [HL.out]; exact hkL
          have hbw : Below S w wr := HB.out.trans (hb.mono (by omega))
          obtain ⟨bc, oc, hC, hbc, q0, q1, q2⟩ := (HCS.out.below hbw).at3 (f := fun x : Chg => .int .i64 x.1) (g := fun x : Chg => .int .i64 x.2.1) (p := fun x : Chg => .int .i64 x.2.2) hkl
          subst hC
          obtain ⟨x, hx⟩ : ∃ x, x = script[k] := ⟨_, rfl⟩
          rw [← hx] at q0 q1 q2
          have hnx : playF ws svs (script.take (k + 1)) = stepF ws svs (playF ws svs (script.take k)) x := by
            rw [List.take_succ_eq_append_getElem hkl, ← hx, playF_snoc]
          have hok := CwOk.play (svs := svs) (fun q => by
            rcases Nat.lt_or_ge q ws.length with hq | hq
            · have : wk ws q ∈ ws := by
                unfold wk
                rw [getD_at ws q hq]
                exact List.getElem_mem hq
              exact (HG.out _ this).1
            · unfold wk
              rw [List.getD_eq_getElem?_getD, List.getElem?_eq_none hq]
              exact Int.le_refl _) (script.take k)
          have hcl : (playF ws svs (script.take k)).codes.length = k := by rw [step_codes, List.length_take]; omega
          obtain ⟨c, hc⟩ : ∃ c, c = playF ws svs (script.take k) := ⟨_, rfl⟩
          rw [← hc] at h hnx hok hcl
          have hzw : S + 1 ≤ wr.heap.size := by have := hb.size; rw [HZ.out] at this; exact this
          have hZk := Blk.new wr 41 #[.int .i64 x.1, .int .i64 x.2.1, .int .i64 x.2.2]
          have h2 := h.alloc (.cells #[.int .i64 x.1, .int .i64 x.2.1, .int .i64 x.2.2] 41)
          have hb2 := hb.alloc hzw (.cells #[.int .i64 x.1, .int .i64 x.2.1, .int .i64 x.2.2] 41)
          have hkR2 := hkR.alloc (.cells #[.int .i64 x.1, .int .i64 x.2.1, .int .i64 x.2.2] 41)
          obtain ⟨V5, hV5⟩ : ∃ V5, V5 = wr.alloc (.cells #[.int .i64 x.1, .int .i64 x.2.1, .int .i64 x.2.2] 41) := ⟨_, rfl⟩
          obtain ⟨Z, hZ⟩ : ∃ Z, Z = wr.heap.size := ⟨_, rfl⟩
          rw [← hV5] at hZk h2 hb2 hkR2
          rw [← hZ] at hZk
          have z0 := hZk.cell 0
          have z1 := hZk.cell 1
          have z2 := hZk.cell 2
          have p2 := h2.blk.cell 2
          have HCH := Lib.hid (crew_change A B W cA cB (S + 1) P m gw gt kc Ac rows c ws svs x V5.drew h2.drew hm12 HW.out hW6 HM.out HG.out hok ((HWS.out.below (HB.out.trans (hb2.drew.mono (by omega)))).more (by omega)) ((HTS.out.below (HB.out.trans (hb2.drew.mono (by omega)))).more (by omega)))
          have HB5 := Lib.hid hb2
          have HKR := Lib.hid hkR2
          have HNX := Lib.hid hnx
          have HV5 := Lib.hid hV5
          have HZZ := Lib.hid hZ
          have HCL := Lib.hid hcl
          have HCC := Lib.hid (chg_codes ws svs c x)
          rw [hcl] at p2
          clear hb h hkR hbw hx hnx hok hcl hc h2 hb2 hkR2 hV5 hZ hZk
          go_wp2_with fail
          rw [← HV5.out, ← HZZ.out]
          refine region_plain 14 15 (fun w' => w'.cell? ⟨P, 2, none⟩ = some (.slice Ac k kc)) (by kernel_rfl) rfl ?_
          refine anyC_reads (by kernel_rfl) [0, 1, 2, 3, 4, 5, 6] ?opp ?ohp 8 _ _ _ (by kernel_rfl) ?okp
          case ohp => (simp only [List.filterMap_cons, List.filterMap_nil, List.getElem?_toArray, List.getElem?_cons_zero, List.getElem?_cons_succ]; try rfl)
          repeat (
            refine readC_step (v := ?_) rfl (fun w' hw' => ?_) ?_
            rotate_left
            focus (have p9 := hw'; go_simp; try with_reducible rfl)
            go_simp)
          refine readC_nil ?_
          refine anyC_one (i := 7) (by kernel_rfl) rfl rfl (.inr p2) ?_
          go_simp
          refine anyC_one (i := 8) (by kernel_rfl) rfl rfl (.inr p2) ?_
          go_simp
          refine HCH.out.mono ?_
          clear HCH
          rintro e w6 ⟨rfl, hb6, rows6, h6⟩
          obtain ⟨er, her⟩ : ∃ er, er = (chgF ws svs c x).2 := ⟨_, rfl⟩
          obtain ⟨c6, hc6⟩ : ∃ c6, c6 = (chgF ws svs c x).1 := ⟨_, rfl⟩
          rw [← hc6] at h6
          rw [← her]
          have hst : stepF ws svs c x = { c6 with codes := c6.codes ++ [er] } := by
            unfold stepF
            rw [← hc6, ← her, hc6, HCC.out]
          have hcl6 : c6.codes.length = k := by rw [hc6, HCC.out]; exact HCL.out
          have hz6 : S + 1 ≤ w6.heap.size := by have := h6.blk.lt; have := h6.hlo; omega
          have hkR6 := HKR.out.drew.below hb6 (by omega)
          have hlit := Blk.new w6 31 #[.int .i64 er]
          have h7 := h6.alloc (.cells #[.int .i64 er] 31)
          have hkR7 := hkR6.alloc (.cells #[.int .i64 er] 31)
          have hb7 := (HB5.out.drew.trans hb6).alloc hz6 (.cells #[.int .i64 er] 31)
          obtain ⟨w7, hw7⟩ : ∃ w7, w7 = w6.alloc (.cells #[.int .i64 er] 31) := ⟨_, rfl⟩
          have hz7 : S + 1 ≤ w7.heap.size := by rw [hw7, size_alloc']; omega
          rw [← hw7] at hlit h7 hkR7 hb7
          have p26 := h6.blk.cell 2
          have p27 := h7.blk.cell 2
          rw [hcl6] at p26 p27
          have H7 := Lib.hid h7
          have HKR7 := Lib.hid hkR7
          have HB7 := Lib.hid hb7
          have HLIT := Lib.hid hlit
          have HST := Lib.hid hst
          have HCL6 := Lib.hid hcl6
          have HW7 := Lib.hid hw7
          clear h6 h7 hkR6 hkR7 hb6 hb7 hlit hst hcl6 her hc6 hw7
          refine anyC_one (i := 9) (by kernel_rfl) rfl rfl (.inr p26) ?_
          go_simp
          rw [← HW7.out]
          refine anyC_one (i := 10) (by kernel_rfl) rfl rfl (.inr p27) ?_
          refine wp_append_els _ _ 25 rfl (S + 1) 1 31 (.int .i64 0) 8 Try.underlying25 (by kernel_rfl) rfl (by omega) icell _ Ac k kc c6.codes HCL6.out rfl H7.out.cod _ 1 1 [er] rfl rfl _ (els_of_blk HLIT.out 1 icell (fun _ => rfl) [er] rfl) (by simp [Value.oneCell']) (by unfold maxLen; omega) (by omega) hz7 ?_
          intro A8 cap8 w8 hown8 hgrow8 hloc8
          have hne : ∀ g, blkOf Ac = some g → S + 1 ≤ g := fun g hg => (H7.out.cod.lt g hg).1
          have hk8 := H7.out.blk.grown hgrow8 (fun e => own_far_blk H7.out.cod H7.out.blk (by decide) e.symm)
          have hkR8 := (HKR7.out.grown hgrow8 (fun e => by have := hne S e.symm; omega)).far (p := ⟨P, 2, none⟩) (by show S ≠ P; omega) (.slice A8 (k + 1) cap8)
          have hb8 := (HB7.out.grown hgrow8 hz7 hne).setCell (p := ⟨P, 2, none⟩) (show S + 1 ≤ P by omega) (.slice A8 (k + 1) cap8)
          have hcode := H7.out.code hown8 hgrow8 (n := k + 1) (by rw [List.length_append, HCL6.out]; rfl)
          rw [← HST.out, ← HNX.out] at hcode
          have p28 := hk8.cell 2
          have f28 := hk8.frozen 2
          rw [HCL6.out] at p28
          have HKR8 := Lib.hid hkR8
          have HB8 := Lib.hid hb8
          have HC8 := Lib.hid hcode
          clear hkR8 hb8 hcode hk8 hown8 hgrow8 hloc8 hne
          go_simp
          refine anyC_one (i := 11) (by kernel_rfl) rfl rfl (.inr p28) ?_
          go_simp
          refine anyC_one (i := 12) (by kernel_rfl) rfl rfl (.inr p28) ?_
          go_simp
          refine anyC_one (i := 13) (by kernel_rfl) rfl rfl (.inr p28) ?_
          go_simp
          refine anyC_one (i := 14) (by kernel_rfl) rfl rfl (.inr p28) ?_
          go_simp
          refine anyC_end (by kernel_rfl) (.inl rfl) ?_
          go_wp2_with fail
          go_roundw
          case rel => exact ⟨k + 1, A8, cap8, rows6, by rw [HL.out]; omega, by go_num, HB8.out, HC8.out, HKR8.out⟩
          case measure => simp [intOf]; omega
        · obtain rfl : k = L := by omega
          rw [List.take_of_length_le (by rw [HL.out]; exact Nat.le_refl _)] at h
          have hcl : (playF ws svs script).codes.length = k := by rw [step_codes]; exact HL.out
          obtain ⟨c, hc⟩ : ∃ c, c = playF ws svs script := ⟨_, rfl⟩
          rw [← hc] at h hcl
          have p2 := h.blk.cell 2
          have p3 := h.blk.cell 3
          have p4 := h.blk.cell 4
          have p5 := h.blk.cell 5
          rw [hcl] at p2
          have r0 := hkR.cell 0
          have r1 := hkR.cell 1
          have r2 := hkR.cell 2
          have r3 := hkR.cell 3
          have f0 := hkR.frozen 0
          have f1 := hkR.frozen 1
          have f2 := hkR.frozen 2
          have f3 := hkR.frozen 3
          have H := Lib.hid h
          have HKR := Lib.hid hkR
          have HBF := Lib.hid (HB.out.trans (hb.mono (Nat.le_succ S)))
          have HCC := Lib.hid hc
          clear h hkR hb hcl hc
          go_wp2_with fail
          have hk9 := (((HKR.out.put 0 (.slice Ac k kc)).put 1 (.int .u32 (wN c.inn))).put 2 (.slice (some ⟨gw, 0, none⟩) m m)).put 3 (.slice (some ⟨gt, 0, none⟩) m m)
          have hb9 := (((HBF.out.setCell (p := ⟨S, 0, none⟩) (Nat.le_refl _) (.slice Ac k kc)).setCell (p := ⟨S, 1, none⟩) (Nat.le_refl _) (.int .u32 (wN c.inn))).setCell (p := ⟨S, 2, none⟩) (Nat.le_refl _) (.slice (some ⟨gw, 0, none⟩) m m)).setCell (p := ⟨S, 3, none⟩) (Nat.le_refl _) (.slice (some ⟨gt, 0, none⟩) m m)
          have hc9 := ((((H.out.kept (gb_setCell _ S 0 (.slice Ac k kc)) (Nat.lt_succ_self S)).kept (gb_setCell _ S 1 (.int .u32 (wN c.inn))) (Nat.lt_succ_self S)).kept (gb_setCell _ S 2 (.slice (some ⟨gw, 0, none⟩) m m)) (Nat.lt_succ_self S)).kept (gb_setCell _ S 3 (.slice (some ⟨gt, 0, none⟩) m m)) (Nat.lt_succ_self S)).weaken (Nat.le_succ S)
          obtain ⟨W9, hW9⟩ : ∃ W9, W9 = ((((wr.setCell ⟨S, 0, none⟩ (.slice Ac k kc)).setCell ⟨S, 1, none⟩ (.int .u32 (wN c.inn))).setCell ⟨S, 2, none⟩ (.slice (some ⟨gw, 0, none⟩) m m)).setCell ⟨S, 3, none⟩ (.slice (some ⟨gt, 0, none⟩) m m)) := ⟨_, rfl⟩
          rw [← hW9] at hk9 hb9 hc9 ⊢
          have e0 := hk9.cell 0
          have e1 := hk9.cell 1
          have e2 := hk9.cell 2
          have e3 := hk9.cell 3
          clear hW9
          refine bodyPost_ret (v := .tuple #[.agg #[.slice Ac k kc, .int .u32 (wN c.inn), .slice (some ⟨gw, 0, none⟩) m m, .slice (some ⟨gt, 0, none⟩) m m], .int .i64 0]) ?_ rfl ⟨hb9, P, gw, gt, Ac, kc, rows, by rw [← HCC.out]; exact hc9, by rw [← HCC.out]⟩
          simp [results, Try.results12, go_sem, e0, e1, e2, e3]
    · go_simp
      refine anyC_one (i := 7) (by kernel_rfl) rfl rfl (.inr trivial) ?_
      go_simp
      refine anyC_reads (by kernel_rfl) [12, 13, 14] ?opd ?ohd 1 _ _ _ (by kernel_rfl) ?okd
      case ohd => (simp only [List.filterMap_cons, List.filterMap_nil, List.getElem?_toArray, List.getElem?_cons_zero, List.getElem?_cons_succ]; try rfl)
      repeat (
        refine readC_step (v := ?_) rfl (fun w' hw' => ?_) ?_
        rotate_left
        focus (clear hw'; go_simp; try with_reducible rfl)
        go_simp)
      refine readC_nil ?_
      refine anyC_one (i := 15) (by kernel_rfl) rfl rfl (.inr trivial) ?_
      go_simp
      refine anyC_end (by kernel_rfl) (.inl rfl) ?_
      go_wp2_with fail
      have hx1 := (HKP.out.put 4 (.slice (some ⟨P + 1, 0, none⟩) m m)).put 5 (.slice (some ⟨P + 1 + 1, 0, none⟩) m m)
      have hxz : ((V2.setCell ⟨P, 4, none⟩ (.slice (some ⟨P + 1, 0, none⟩) m m)).setCell ⟨P, 5, none⟩ (.slice (some ⟨P + 1 + 1, 0, none⟩) m m)).heap.size = P + 1 := by simpa using hdz
      have hxb := (HB2.out.setCell (p := ⟨P, 4, none⟩) (show S + 1 ≤ P by omega) (.slice (some ⟨P + 1, 0, none⟩) m m)).setCell (p := ⟨P, 5, none⟩) (show S + 1 ≤ P by omega) (.slice (some ⟨P + 1 + 1, 0, none⟩) m m)
      have hxk := (HK2.out.far (p := ⟨P, 4, none⟩) (by show S ≠ P; omega) (.slice (some ⟨P + 1, 0, none⟩) m m)).far (p := ⟨P, 5, none⟩) (by show S ≠ P; omega) (.slice (some ⟨P + 1 + 1, 0, none⟩) m m)
      obtain ⟨X, hX⟩ : ∃ X, X = (V2.setCell ⟨P, 4, none⟩ (.slice (some ⟨P + 1, 0, none⟩) m m)).setCell ⟨P, 5, none⟩ (.slice (some ⟨P + 1 + 1, 0, none⟩) m m) := ⟨_, rfl⟩
      rw [← hX] at hx1 hxz hxb hxk ⊢
      have ha1 := Blk.new X 3 (madeCells #[.int .i64 0] m)
      have ha2 := Blk.new (X.alloc (.cells (madeCells #[.int .i64 0] m) 3)) 27 (madeCells #[.slice none 0 0] m)
      rw [hxz] at ha1
      rw [size_alloc', hxz] at ha2
      have HC7 := Lib.hid (crew_start ((hx1.alloc (.cells (madeCells #[.int .i64 0] m) 3)).alloc (.cells (madeCells #[.slice none 0 0] m) 27)) (ha1.alloc (.cells (madeCells #[.slice none 0 0] m) 27)) ha2 (by unfold maxLen; omega) (show S + 1 ≤ P by omega) (by omega) (by omega))
      have HB7 := Lib.hid ((hxb.alloc (by omega) (.cells (madeCells #[.int .i64 0] m) 3)).alloc (by rw [size_alloc']; omega) (.cells (madeCells #[.slice none 0 0] m) 27))
      have HK7 := Lib.hid ((hxk.alloc (.cells (madeCells #[.int .i64 0] m) 3)).alloc (.cells (madeCells #[.slice none 0 0] m) 27))
      obtain ⟨W7, hW7⟩ : ∃ W7, W7 = (X.alloc (.cells (madeCells #[.int .i64 0] m) 3)).alloc (.cells (madeCells #[.slice none 0 0] m) 27) := ⟨_, rfl⟩
      rw [← hW7] at HC7 HB7 HK7 ⊢
      obtain ⟨gw, hgw⟩ : ∃ g, g = P + 1 := ⟨_, rfl⟩
      obtain ⟨gt, hgt⟩ : ∃ g, g = P + 1 + 1 := ⟨_, rfl⟩
      rw [← hgt] at HC7 ⊢
      rw [← hgw] at HC7 ⊢
      clear hx1 hxz hxb hxk hX ha1 ha2 hW7 hgw hgt g4 g5 g4f g5f hmW hmT hdz
      go_loopw [43] (fun s43 wr => PlayI S P (.slice A W cA) (.slice B m cB) m gw gt ws svs script V s43 wr) (fun s43 _ => L - (intOf s43).toNat)
      case atStart => exact ⟨0, none, 0, _, Nat.zero_le _, rfl, HB7.out.drew, by rw [List.take_zero]; unfold playF; rw [List.foldl_nil, HM.out]; exact HC7.out.drew, HK7.out.drew⟩
      case round =>
        clear HB7 HC7 HK7
        rename World => wr
        obtain ⟨k, Ac, kc, rows, hk, rfl, hb, h, hkR⟩ := hrel
        rw [HL.out] at hk
        by_cases hkL : k < L
        · have hkl : k < script.length := by rw [HL.out]; exact hkL
          have hbw : Below S w wr := HB.out.trans (hb.mono (by omega))
          obtain ⟨bc, oc, hC, hbc, q0, q1, q2⟩ := (HCS.out.below hbw).at3 (f := fun x : Chg => .int .i64 x.1) (g := fun x : Chg => .int .i64 x.2.1) (p := fun x : Chg => .int .i64 x.2.2) hkl
          subst hC
          obtain ⟨x, hx⟩ : ∃ x, x = script[k] := ⟨_, rfl⟩
          rw [← hx] at q0 q1 q2
          have hnx : playF ws svs (script.take (k + 1)) = stepF ws svs (playF ws svs (script.take k)) x := by
            rw [List.take_succ_eq_append_getElem hkl, ← hx, playF_snoc]
          have hok := CwOk.play (svs := svs) (fun q => by
            rcases Nat.lt_or_ge q ws.length with hq | hq
            · have : wk ws q ∈ ws := by
                unfold wk
                rw [getD_at ws q hq]
                exact List.getElem_mem hq
              exact (HG.out _ this).1
            · unfold wk
              rw [List.getD_eq_getElem?_getD, List.getElem?_eq_none hq]
              exact Int.le_refl _) (script.take k)
          have hcl : (playF ws svs (script.take k)).codes.length = k := by rw [step_codes, List.length_take]; omega
          obtain ⟨c, hc⟩ : ∃ c, c = playF ws svs (script.take k) := ⟨_, rfl⟩
          rw [← hc] at h hnx hok hcl
          have hzw : S + 1 ≤ wr.heap.size := by have := hb.size; rw [HZ.out] at this; exact this
          have hZk := Blk.new wr 41 #[.int .i64 x.1, .int .i64 x.2.1, .int .i64 x.2.2]
          have h2 := h.alloc (.cells #[.int .i64 x.1, .int .i64 x.2.1, .int .i64 x.2.2] 41)
          have hb2 := hb.alloc hzw (.cells #[.int .i64 x.1, .int .i64 x.2.1, .int .i64 x.2.2] 41)
          have hkR2 := hkR.alloc (.cells #[.int .i64 x.1, .int .i64 x.2.1, .int .i64 x.2.2] 41)
          obtain ⟨V5, hV5⟩ : ∃ V5, V5 = wr.alloc (.cells #[.int .i64 x.1, .int .i64 x.2.1, .int .i64 x.2.2] 41) := ⟨_, rfl⟩
          obtain ⟨Z, hZ⟩ : ∃ Z, Z = wr.heap.size := ⟨_, rfl⟩
          rw [← hV5] at hZk h2 hb2 hkR2
          rw [← hZ] at hZk
          have z0 := hZk.cell 0
          have z1 := hZk.cell 1
          have z2 := hZk.cell 2
          have p2 := h2.blk.cell 2
          have HCH := Lib.hid (crew_change A B W cA cB (S + 1) P m gw gt kc Ac rows c ws svs x V5.drew h2.drew hm12 HW.out hW6 HM.out HG.out hok ((HWS.out.below (HB.out.trans (hb2.drew.mono (by omega)))).more (by omega)) ((HTS.out.below (HB.out.trans (hb2.drew.mono (by omega)))).more (by omega)))
          have HB5 := Lib.hid hb2
          have HKR := Lib.hid hkR2
          have HNX := Lib.hid hnx
          have HV5 := Lib.hid hV5
          have HZZ := Lib.hid hZ
          have HCL := Lib.hid hcl
          have HCC := Lib.hid (chg_codes ws svs c x)
          rw [hcl] at p2
          clear hb h hkR hbw hx hnx hok hcl hc h2 hb2 hkR2 hV5 hZ hZk
          go_wp2_with fail
          rw [← HV5.out, ← HZZ.out]
          refine region_plain 14 15 (fun w' => w'.cell? ⟨P, 2, none⟩ = some (.slice Ac k kc)) (by kernel_rfl) rfl ?_
          refine anyC_reads (by kernel_rfl) [0, 1, 2, 3, 4, 5, 6] ?opq ?ohq 8 _ _ _ (by kernel_rfl) ?okq
          case ohq => (simp only [List.filterMap_cons, List.filterMap_nil, List.getElem?_toArray, List.getElem?_cons_zero, List.getElem?_cons_succ]; try rfl)
          repeat (
            refine readC_step (v := ?_) rfl (fun w' hw' => ?_) ?_
            rotate_left
            focus (have p9 := hw'; go_simp; try with_reducible rfl)
            go_simp)
          refine readC_nil ?_
          refine anyC_one (i := 7) (by kernel_rfl) rfl rfl (.inr p2) ?_
          go_simp
          refine anyC_one (i := 8) (by kernel_rfl) rfl rfl (.inr p2) ?_
          go_simp
          refine HCH.out.mono ?_
          clear HCH
          rintro e w6 ⟨rfl, hb6, rows6, h6⟩
          obtain ⟨er, her⟩ : ∃ er, er = (chgF ws svs c x).2 := ⟨_, rfl⟩
          obtain ⟨c6, hc6⟩ : ∃ c6, c6 = (chgF ws svs c x).1 := ⟨_, rfl⟩
          rw [← hc6] at h6
          rw [← her]
          have hst : stepF ws svs c x = { c6 with codes := c6.codes ++ [er] } := by
            unfold stepF
            rw [← hc6, ← her, hc6, HCC.out]
          have hcl6 : c6.codes.length = k := by rw [hc6, HCC.out]; exact HCL.out
          have hz6 : S + 1 ≤ w6.heap.size := by have := h6.blk.lt; have := h6.hlo; omega
          have hkR6 := HKR.out.drew.below hb6 (by omega)
          have hlit := Blk.new w6 31 #[.int .i64 er]
          have h7 := h6.alloc (.cells #[.int .i64 er] 31)
          have hkR7 := hkR6.alloc (.cells #[.int .i64 er] 31)
          have hb7 := (HB5.out.drew.trans hb6).alloc hz6 (.cells #[.int .i64 er] 31)
          obtain ⟨w7, hw7⟩ : ∃ w7, w7 = w6.alloc (.cells #[.int .i64 er] 31) := ⟨_, rfl⟩
          have hz7 : S + 1 ≤ w7.heap.size := by rw [hw7, size_alloc']; omega
          rw [← hw7] at hlit h7 hkR7 hb7
          have p26 := h6.blk.cell 2
          have p27 := h7.blk.cell 2
          rw [hcl6] at p26 p27
          have H7 := Lib.hid h7
          have HKR7 := Lib.hid hkR7
          have HB7 := Lib.hid hb7
          have HLIT := Lib.hid hlit
          have HST := Lib.hid hst
          have HCL6 := Lib.hid hcl6
          have HW7 := Lib.hid hw7
          clear h6 h7 hkR6 hkR7 hb6 hb7 hlit hst hcl6 her hc6 hw7
          refine anyC_one (i := 9) (by kernel_rfl) rfl rfl (.inr p26) ?_
          go_simp
          rw [← HW7.out]
          refine anyC_one (i := 10) (by kernel_rfl) rfl rfl (.inr p27) ?_
          refine wp_append_els _ _ 25 rfl (S + 1) 1 31 (.int .i64 0) 8 Try.underlying25 (by kernel_rfl) rfl (by omega) icell _ Ac k kc c6.codes HCL6.out rfl H7.out.cod _ 1 1 [er] rfl rfl _ (els_of_blk HLIT.out 1 icell (fun _ => rfl) [er] rfl) (by simp [Value.oneCell']) (by unfold maxLen; omega) (by omega) hz7 ?_
          intro A8 cap8 w8 hown8 hgrow8 hloc8
          have hne : ∀ g, blkOf Ac = some g → S + 1 ≤ g := fun g hg => (H7.out.cod.lt g hg).1
          have hk8 := H7.out.blk.grown hgrow8 (fun e => own_far_blk H7.out.cod H7.out.blk (by decide) e.symm)
          have hkR8 := (HKR7.out.grown hgrow8 (fun e => by have := hne S e.symm; omega)).far (p := ⟨P, 2, none⟩) (by show S ≠ P; omega) (.slice A8 (k + 1) cap8)
          have hb8 := (HB7.out.grown hgrow8 hz7 hne).setCell (p := ⟨P, 2, none⟩) (show S + 1 ≤ P by omega) (.slice A8 (k + 1) cap8)
          have hcode := H7.out.code hown8 hgrow8 (n := k + 1) (by rw [List.length_append, HCL6.out]; rfl)
          rw [← HST.out, ← HNX.out] at hcode
          have p28 := hk8.cell 2
          have f28 := hk8.frozen 2
          rw [HCL6.out] at p28
          have HKR8 := Lib.hid hkR8
          have HB8 := Lib.hid hb8
          have HC8 := Lib.hid hcode
          clear hkR8 hb8 hcode hk8 hown8 hgrow8 hloc8 hne
          go_simp
          refine anyC_one (i := 11) (by kernel_rfl) rfl rfl (.inr p28) ?_
          go_simp
          refine anyC_one (i := 12) (by kernel_rfl) rfl rfl (.inr p28) ?_
          go_simp
          refine anyC_one (i := 13) (by kernel_rfl) rfl rfl (.inr p28) ?_
          go_simp
          refine anyC_one (i := 14) (by kernel_rfl) rfl rfl (.inr p28) ?_
          go_simp
          refine anyC_end (by kernel_rfl) (.inl rfl) ?_
          go_wp2_with fail
          go_roundw
          case rel => exact ⟨k + 1, A8, cap8, rows6, by rw [HL.out]; omega, by go_num, HB8.out, HC8.out, HKR8.out⟩
          case measure => simp [intOf]; omega
        · obtain rfl : k = L := by omega
          rw [List.take_of_length_le (by rw [HL.out]; exact Nat.le_refl _)] at h
          have hcl : (playF ws svs script).codes.length = k := by rw [step_codes]; exact HL.out
          obtain ⟨c, hc⟩ : ∃ c, c = playF ws svs script := ⟨_, rfl⟩
          rw [← hc] at h hcl
          have p2 := h.blk.cell 2
          have p3 := h.blk.cell 3
          have p4 := h.blk.cell 4
          have p5 := h.blk.cell 5
          rw [hcl] at p2
          have r0 := hkR.cell 0
          have r1 := hkR.cell 1
          have r2 := hkR.cell 2
          have r3 := hkR.cell 3
          have f0 := hkR.frozen 0
          have f1 := hkR.frozen 1
          have f2 := hkR.frozen 2
          have f3 := hkR.frozen 3
          have H := Lib.hid h
          have HKR := Lib.hid hkR
          have HBF := Lib.hid (HB.out.trans (hb.mono (Nat.le_succ S)))
          have HCC := Lib.hid hc
          clear h hkR hb hcl hc
          go_wp2_with fail
          have hk9 := (((HKR.out.put 0 (.slice Ac k kc)).put 1 (.int .u32 (wN c.inn))).put 2 (.slice (some ⟨gw, 0, none⟩) m m)).put 3 (.slice (some ⟨gt, 0, none⟩) m m)
          have hb9 := (((HBF.out.setCell (p := ⟨S, 0, none⟩) (Nat.le_refl _) (.slice Ac k kc)).setCell (p := ⟨S, 1, none⟩) (Nat.le_refl _) (.int .u32 (wN c.inn))).setCell (p := ⟨S, 2, none⟩) (Nat.le_refl _) (.slice (some ⟨gw, 0, none⟩) m m)).setCell (p := ⟨S, 3, none⟩) (Nat.le_refl _) (.slice (some ⟨gt, 0, none⟩) m m)
          have hc9 := ((((H.out.kept (gb_setCell _ S 0 (.slice Ac k kc)) (Nat.lt_succ_self S)).kept (gb_setCell _ S 1 (.int .u32 (wN c.inn))) (Nat.lt_succ_self S)).kept (gb_setCell _ S 2 (.slice (some ⟨gw, 0, none⟩) m m)) (Nat.lt_succ_self S)).kept (gb_setCell _ S 3 (.slice (some ⟨gt, 0, none⟩) m m)) (Nat.lt_succ_self S)).weaken (Nat.le_succ S)
          obtain ⟨W9, hW9⟩ : ∃ W9, W9 = ((((wr.setCell ⟨S, 0, none⟩ (.slice Ac k kc)).setCell ⟨S, 1, none⟩ (.int .u32 (wN c.inn))).setCell ⟨S, 2, none⟩ (.slice (some ⟨gw, 0, none⟩) m m)).setCell ⟨S, 3, none⟩ (.slice (some ⟨gt, 0, none⟩) m m)) := ⟨_, rfl⟩
          rw [← hW9] at hk9 hb9 hc9 ⊢
          have e0 := hk9.cell 0
          have e1 := hk9.cell 1
          have e2 := hk9.cell 2
          have e3 := hk9.cell 3
          clear hW9
          refine bodyPost_ret (v := .tuple #[.agg #[.slice Ac k kc, .int .u32 (wN c.inn), .slice (some ⟨gw, 0, none⟩) m m, .slice (some ⟨gt, 0, none⟩) m m], .int .i64 0]) ?_ rfl ⟨hb9, P, gw, gt, Ac, kc, rows, by rw [← HCC.out]; exact hc9, by rw [← HCC.out]⟩
          simp [results, Try.results12, go_sem, e0, e1, e2, e3]
  · go_simp
    refine anyC_one (i := 4) (by kernel_rfl) rfl rfl (.inr trivial) ?_
    go_simp
    refine anyC_reads (by kernel_rfl) [8, 9, 10] ?ope ?ohe 5 _ _ _ (by kernel_rfl) ?oke
    case ohe => (simp only [List.filterMap_cons, List.filterMap_nil, List.getElem?_toArray, List.getElem?_cons_zero, List.getElem?_cons_succ]; try rfl)
    repeat (
      refine readC_step (v := ?_) rfl (fun w' hw' => ?_) ?_
      rotate_left
      focus (clear hw'; go_simp; try with_reducible rfl)
      go_simp)
    refine readC_nil ?_
    refine anyC_one (i := 11) (by kernel_rfl) rfl rfl (.inr trivial) ?_
    go_simp
    refine anyC_reads (by kernel_rfl) [12, 13, 14] ?opf ?ohf 1 _ _ _ (by kernel_rfl) ?okf
    case ohf => (simp only [List.filterMap_cons, List.filterMap_nil, List.getElem?_toArray, List.getElem?_cons_zero, List.getElem?_cons_succ]; try rfl)
    repeat (
      refine readC_step (v := ?_) rfl (fun w' hw' => ?_) ?_
      rotate_left
      focus (clear hw'; go_simp; try with_reducible rfl)
      go_simp)
    refine readC_nil ?_
    refine anyC_one (i := 15) (by kernel_rfl) rfl rfl (.inr trivial) ?_
    go_simp
    refine anyC_end (by kernel_rfl) (.inl rfl) ?_
    go_wp2_with fail
    have hx1 := (HKP.out.put 4 (.slice (some ⟨P + 1 + 1, 0, none⟩) m m)).put 5 (.slice (some ⟨P + 1, 0, none⟩) m m)
    have hxz : ((V2.setCell ⟨P, 4, none⟩ (.slice (some ⟨P + 1 + 1, 0, none⟩) m m)).setCell ⟨P, 5, none⟩ (.slice (some ⟨P + 1, 0, none⟩) m m)).heap.size = P + 1 := by simpa using hdz
    have hxb := (HB2.out.setCell (p := ⟨P, 4, none⟩) (show S + 1 ≤ P by omega) (.slice (some ⟨P + 1 + 1, 0, none⟩) m m)).setCell (p := ⟨P, 5, none⟩) (show S + 1 ≤ P by omega) (.slice (some ⟨P + 1, 0, none⟩) m m)
    have hxk := (HK2.out.far (p := ⟨P, 4, none⟩) (by show S ≠ P; omega) (.slice (some ⟨P + 1 + 1, 0, none⟩) m m)).far (p := ⟨P, 5, none⟩) (by show S ≠ P; omega) (.slice (some ⟨P + 1, 0, none⟩) m m)
    obtain ⟨X, hX⟩ : ∃ X, X = (V2.setCell ⟨P, 4, none⟩ (.slice (some ⟨P + 1 + 1, 0, none⟩) m m)).setCell ⟨P, 5, none⟩ (.slice (some ⟨P + 1, 0, none⟩) m m) := ⟨_, rfl⟩
    rw [← hX] at hx1 hxz hxb hxk ⊢
    have ha1 := Blk.new X 27 (madeCells #[.slice none 0 0] m)
    have ha2 := Blk.new (X.alloc (.cells (madeCells #[.slice none 0 0] m) 27)) 3 (madeCells #[.int .i64 0] m)
    rw [hxz] at ha1
    rw [size_alloc', hxz] at ha2
    have HC7 := Lib.hid (crew_start ((hx1.alloc (.cells (madeCells #[.slice none 0 0] m) 27)).alloc (.cells (madeCells #[.int .i64 0] m) 3)) ha2 (ha1.alloc (.cells (madeCells #[.int .i64 0] m) 3)) (by unfold maxLen; omega) (show S + 1 ≤ P by omega) (by omega) (by omega))
    have HB7 := Lib.hid ((hxb.alloc (by omega) (.cells (madeCells #[.slice none 0 0] m) 27)).alloc (by rw [size_alloc']; omega) (.cells (madeCells #[.int .i64 0] m) 3))
    have HK7 := Lib.hid ((hxk.alloc (.cells (madeCells #[.slice none 0 0] m) 27)).alloc (.cells (madeCells #[.int .i64 0] m) 3))
    obtain ⟨W7, hW7⟩ : ∃ W7, W7 = (X.alloc (.cells (madeCells #[.slice none 0 0] m) 27)).alloc (.cells (madeCells #[.int .i64 0] m) 3) := ⟨_, rfl⟩
    rw [← hW7] at HC7 HB7 HK7 ⊢
    obtain ⟨gw, hgw⟩ : ∃ g, g = P + 1 + 1 := ⟨_, rfl⟩
    obtain ⟨gt, hgt⟩ : ∃ g, g = P + 1 := ⟨_, rfl⟩
    rw [← hgw] at HC7 ⊢
    rw [← hgt] at HC7 ⊢
    clear hx1 hxz hxb hxk hX ha1 ha2 hW7 hgw hgt g4 g5 g4f g5f hmW hmT hdz
    go_loopw [43] (fun s43 wr => PlayI S P (.slice A W cA) (.slice B m cB) m gw gt ws svs script V s43 wr) (fun s43 _ => L - (intOf s43).toNat)
    case atStart => exact ⟨0, none, 0, _, Nat.zero_le _, rfl, HB7.out.drew, by rw [List.take_zero]; unfold playF; rw [List.foldl_nil, HM.out]; exact HC7.out.drew, HK7.out.drew⟩
    case round =>
      clear HB7 HC7 HK7
      rename World => wr
      obtain ⟨k, Ac, kc, rows, hk, rfl, hb, h, hkR⟩ := hrel
      rw [HL.out] at hk
      by_cases hkL : k < L
      · have hkl : k < script.length := by rw [HL.out]; exact hkL
        have hbw : Below S w wr := HB.out.trans (hb.mono (by omega))
        obtain ⟨bc, oc, hC, hbc, q0, q1, q2⟩ := (HCS.out.below hbw).at3 (f := fun x : Chg => .int .i64 x.1) (g := fun x : Chg => .int .i64 x.2.1) (p := fun x : Chg => .int .i64 x.2.2) hkl
        subst hC
        obtain ⟨x, hx⟩ : ∃ x, x = script[k] := ⟨_, rfl⟩
        rw [← hx] at q0 q1 q2
        have hnx : playF ws svs (script.take (k + 1)) = stepF ws svs (playF ws svs (script.take k)) x := by
          rw [List.take_succ_eq_append_getElem hkl, ← hx, playF_snoc]
        have hok := CwOk.play (svs := svs) (fun q => by
          rcases Nat.lt_or_ge q ws.length with hq | hq
          · have : wk ws q ∈ ws := by
              unfold wk
              rw [getD_at ws q hq]
              exact List.getElem_mem hq
            exact (HG.out _ this).1
          · unfold wk
            rw [List.getD_eq_getElem?_getD, List.getElem?_eq_none hq]
            exact Int.le_refl _) (script.take k)
        have hcl : (playF ws svs (script.take k)).codes.length = k := by rw [step_codes, List.length_take]; omega
        obtain ⟨c, hc⟩ : ∃ c, c = playF ws svs (script.take k) := ⟨_, rfl⟩
        rw [← hc] at h hnx hok hcl
        have hzw : S + 1 ≤ wr.heap.size := by have := hb.size; rw [HZ.out] at this; exact this
        have hZk := Blk.new wr 41 #[.int .i64 x.1, .int .i64 x.2.1, .int .i64 x.2.2]
        have h2 := h.alloc (.cells #[.int .i64 x.1, .int .i64 x.2.1, .int .i64 x.2.2] 41)
        have hb2 := hb.alloc hzw (.cells #[.int .i64 x.1, .int .i64 x.2.1, .int .i64 x.2.2] 41)
        have hkR2 := hkR.alloc (.cells #[.int .i64 x.1, .int .i64 x.2.1, .int .i64 x.2.2] 41)
        obtain ⟨V5, hV5⟩ : ∃ V5, V5 = wr.alloc (.cells #[.int .i64 x.1, .int .i64 x.2.1, .int .i64 x.2.2] 41) := ⟨_, rfl⟩
        obtain ⟨Z, hZ⟩ : ∃ Z, Z = wr.heap.size := ⟨_, rfl⟩
        rw [← hV5] at hZk h2 hb2 hkR2
        rw [← hZ] at hZk
        have z0 := hZk.cell 0
        have z1 := hZk.cell 1
        have z2 := hZk.cell 2
        have p2 := h2.blk.cell 2
        have HCH := Lib.hid (crew_change A B W cA cB (S + 1) P m gw gt kc Ac rows c ws svs x V5.drew h2.drew hm12 HW.out hW6 HM.out HG.out hok ((HWS.out.below (HB.out.trans (hb2.drew.mono (by omega)))).more (by omega)) ((HTS.out.below (HB.out.trans (hb2.drew.mono (by omega)))).more (by omega)))
        have HB5 := Lib.hid hb2
        have HKR := Lib.hid hkR2
        have HNX := Lib.hid hnx
        have HV5 := Lib.hid hV5
        have HZZ := Lib.hid hZ
        have HCL := Lib.hid hcl
        have HCC := Lib.hid (chg_codes ws svs c x)
        rw [hcl] at p2
        clear hb h hkR hbw hx hnx hok hcl hc h2 hb2 hkR2 hV5 hZ hZk
        go_wp2_with fail
        rw [← HV5.out, ← HZZ.out]
        refine region_plain 14 15 (fun w' => w'.cell? ⟨P, 2, none⟩ = some (.slice Ac k kc)) (by kernel_rfl) rfl ?_
        refine anyC_reads (by kernel_rfl) [0, 1, 2, 3, 4, 5, 6] ?opr ?ohr 8 _ _ _ (by kernel_rfl) ?okr
        case ohr => (simp only [List.filterMap_cons, List.filterMap_nil, List.getElem?_toArray, List.getElem?_cons_zero, List.getElem?_cons_succ]; try rfl)
        repeat (
          refine readC_step (v := ?_) rfl (fun w' hw' => ?_) ?_
          rotate_left
          focus (have p9 := hw'; go_simp; try with_reducible rfl)
          go_simp)
        refine readC_nil ?_
        refine anyC_one (i := 7) (by kernel_rfl) rfl rfl (.inr p2) ?_
        go_simp
        refine anyC_one (i := 8) (by kernel_rfl) rfl rfl (.inr p2) ?_
        go_simp
        refine HCH.out.mono ?_
        clear HCH
        rintro e w6 ⟨rfl, hb6, rows6, h6⟩
        obtain ⟨er, her⟩ : ∃ er, er = (chgF ws svs c x).2 := ⟨_, rfl⟩
        obtain ⟨c6, hc6⟩ : ∃ c6, c6 = (chgF ws svs c x).1 := ⟨_, rfl⟩
        rw [← hc6] at h6
        rw [← her]
        have hst : stepF ws svs c x = { c6 with codes := c6.codes ++ [er] } := by
          unfold stepF
          rw [← hc6, ← her, hc6, HCC.out]
        have hcl6 : c6.codes.length = k := by rw [hc6, HCC.out]; exact HCL.out
        have hz6 : S + 1 ≤ w6.heap.size := by have := h6.blk.lt; have := h6.hlo; omega
        have hkR6 := HKR.out.drew.below hb6 (by omega)
        have hlit := Blk.new w6 31 #[.int .i64 er]
        have h7 := h6.alloc (.cells #[.int .i64 er] 31)
        have hkR7 := hkR6.alloc (.cells #[.int .i64 er] 31)
        have hb7 := (HB5.out.drew.trans hb6).alloc hz6 (.cells #[.int .i64 er] 31)
        obtain ⟨w7, hw7⟩ : ∃ w7, w7 = w6.alloc (.cells #[.int .i64 er] 31) := ⟨_, rfl⟩
        have hz7 : S + 1 ≤ w7.heap.size := by rw [hw7, size_alloc']; omega
        rw [← hw7] at hlit h7 hkR7 hb7
        have p26 := h6.blk.cell 2
        have p27 := h7.blk.cell 2
        rw [hcl6] at p26 p27
        have H7 := Lib.hid h7
        have HKR7 := Lib.hid hkR7
        have HB7 := Lib.hid hb7
        have HLIT := Lib.hid hlit
        have HST := Lib.hid hst
        have HCL6 := Lib.hid hcl6
        have HW7 := Lib.hid hw7
        clear h6 h7 hkR6 hkR7 hb6 hb7 hlit hst hcl6 her hc6 hw7
        refine anyC_one (i := 9) (by kernel_rfl) rfl rfl (.inr p26) ?_
        go_simp
        rw [← HW7.out]
        refine anyC_one (i := 10) (by kernel_rfl) rfl rfl (.inr p27) ?_
        refine wp_append_els _ _ 25 rfl (S + 1) 1 31 (.int .i64 0) 8 Try.underlying25 (by kernel_rfl) rfl (by omega) icell _ Ac k kc c6.codes HCL6.out rfl H7.out.cod _ 1 1 [er] rfl rfl _ (els_of_blk HLIT.out 1 icell (fun _ => rfl) [er] rfl) (by simp [Value.oneCell']) (by unfold maxLen; omega) (by omega) hz7 ?_
        intro A8 cap8 w8 hown8 hgrow8 hloc8
        have hne : ∀ g, blkOf Ac = some g → S + 1 ≤ g := fun g hg => (H7.out.cod.lt g hg).1
        have hk8 := H7.out.blk.grown hgrow8 (fun e => own_far_blk H7.out.cod H7.out.blk (by decide) e.symm)
        have hkR8 := (HKR7.out.grown hgrow8 (fun e => by have := hne S e.symm; omega)).far (p := ⟨P, 2, none⟩) (by show S ≠ P; omega) (.slice A8 (k + 1) cap8)
        have hb8 := (HB7.out.grown hgrow8 hz7 hne).setCell (p := ⟨P, 2, none⟩) (show S + 1 ≤ P by omega) (.slice A8 (k + 1) cap8)
        have hcode := H7.out.code hown8 hgrow8 (n := k + 1) (by rw [List.length_append, HCL6.out]; rfl)
        rw [← HST.out, ← HNX.out] at hcode
        have p28 := hk8.cell 2
        have f28 := hk8.frozen 2
        rw [HCL6.out] at p28
        have HKR8 := Lib.hid hkR8
        have HB8 := Lib.hid hb8
        have HC8 := Lib.hid hcode
        clear hkR8 hb8 hcode hk8 hown8 hgrow8 hloc8 hne
        go_simp
        refine anyC_one (i := 11) (by kernel_rfl) rfl rfl (.inr p28) ?_
        go_simp
        refine anyC_one (i := 12) (by kernel_rfl) rfl rfl (.inr p28) ?_
        go_simp
        refine anyC_one (i := 13) (by kernel_rfl) rfl rfl (.inr p28) ?_
        go_simp
        refine anyC_one (i := 14) (by kernel_rfl) rfl rfl (.inr p28) ?_
        go_simp
        refine anyC_end (by kernel_rfl) (.inl rfl) ?_
        go_wp2_with fail
        go_roundw
        case rel => exact ⟨k + 1, A8, cap8, rows6, by rw [HL.out]; omega, by go_num, HB8.out, HC8.out, HKR8.out⟩
        case measure => simp [intOf]; omega
      · obtain rfl : k = L := by omega
        rw [List.take_of_length_le (by rw [HL.out]; exact Nat.le_refl _)] at h
        have hcl : (playF ws svs script).codes.length = k := by rw [step_codes]; exact HL.out
        obtain ⟨c, hc⟩ : ∃ c, c = playF ws svs script := ⟨_, rfl⟩
        rw [← hc] at h hcl
        have p2 := h.blk.cell 2
        have p3 := h.blk.cell 3
        have p4 := h.blk.cell 4
        have p5 := h.blk.cell 5
        rw [hcl] at p2
        have r0 := hkR.cell 0
        have r1 := hkR.cell 1
        have r2 := hkR.cell 2
        have r3 := hkR.cell 3
        have f0 := hkR.frozen 0
        have f1 := hkR.frozen 1
        have f2 := hkR.frozen 2
        have f3 := hkR.frozen 3
        have H := Lib.hid h
        have HKR := Lib.hid hkR
        have HBF := Lib.hid (HB.out.trans (hb.mono (Nat.le_succ S)))
        have HCC := Lib.hid hc
        clear h hkR hb hcl hc
        go_wp2_with fail
        have hk9 := (((HKR.out.put 0 (.slice Ac k kc)).put 1 (.int .u32 (wN c.inn))).put 2 (.slice (some ⟨gw, 0, none⟩) m m)).put 3 (.slice (some ⟨gt, 0, none⟩) m m)
        have hb9 := (((HBF.out.setCell (p := ⟨S, 0, none⟩) (Nat.le_refl _) (.slice Ac k kc)).setCell (p := ⟨S, 1, none⟩) (Nat.le_refl _) (.int .u32 (wN c.inn))).setCell (p := ⟨S, 2, none⟩) (Nat.le_refl _) (.slice (some ⟨gw, 0, none⟩) m m)).setCell (p := ⟨S, 3, none⟩) (Nat.le_refl _) (.slice (some ⟨gt, 0, none⟩) m m)
        have hc9 := ((((H.out.kept (gb_setCell _ S 0 (.slice Ac k kc)) (Nat.lt_succ_self S)).kept (gb_setCell _ S 1 (.int .u32 (wN c.inn))) (Nat.lt_succ_self S)).kept (gb_setCell _ S 2 (.slice (some ⟨gw, 0, none⟩) m m)) (Nat.lt_succ_self S)).kept (gb_setCell _ S 3 (.slice (some ⟨gt, 0, none⟩) m m)) (Nat.lt_succ_self S)).weaken (Nat.le_succ S)
        obtain ⟨W9, hW9⟩ : ∃ W9, W9 = ((((wr.setCell ⟨S, 0, none⟩ (.slice Ac k kc)).setCell ⟨S, 1, none⟩ (.int .u32 (wN c.inn))).setCell ⟨S, 2, none⟩ (.slice (some ⟨gw, 0, none⟩) m m)).setCell ⟨S, 3, none⟩ (.slice (some ⟨gt, 0, none⟩) m m)) := ⟨_, rfl⟩
        rw [← hW9] at hk9 hb9 hc9 ⊢
        have e0 := hk9.cell 0
        have e1 := hk9.cell 1
        have e2 := hk9.cell 2
        have e3 := hk9.cell 3
        clear hW9
        refine bodyPost_ret (v := .tuple #[.agg #[.slice Ac k kc, .int .u32 (wN c.inn), .slice (some ⟨gw, 0, none⟩) m m, .slice (some ⟨gt, 0, none⟩) m m], .int .i64 0]) ?_ rfl ⟨hb9, P, gw, gt, Ac, kc, rows, by rw [← HCC.out]; exact hc9, by rw [← HCC.out]⟩
        simp [results, Try.results12, go_sem, e0, e1, e2, e3]
end Go.Proofs.Ytdinknpagklkjaa
