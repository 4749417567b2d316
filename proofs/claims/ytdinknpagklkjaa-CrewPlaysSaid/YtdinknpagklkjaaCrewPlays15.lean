/- A crew of the document in memory. Conditions: the crew lies in memory. -/
import Derived.Test.YtdinknpagklkjaaCrewPlays14
import Derived.Test.YtdinknpagklkjaaCrewPlays4
import Derived.Test.YtdinknpagklkjaaCrewPlays2
namespace Go.Proofs.Ytdinknpagklkjaa
open Go.RowKit

structure CrefIn (w : World) (lo P : Nat) (m gw gt : Nat) (Ac : Option Addr) (kc : Nat) (rows : List (Sls Int)) (c : Cw) : Prop where
  blk : Blk w P 30 #[.slice Ac c.codes.length kc, .int .u32 (wN c.inn), .slice (some ⟨gw, 0, none⟩) m m, .slice (some ⟨gt, 0, none⟩) m m]
  cod : Own w lo 31 1 icell Ac kc c.codes
  wnt : Own w lo 3 1 icell (some ⟨gw, 0, none⟩) m c.wants
  tab : Own w lo 27 1 slcell (some ⟨gt, 0, none⟩) m rows
  tsk : rows.map (·.l) = c.tasks
  row : ∀ j, j < m → Own w lo 3 1 icell (rwAt rows j).A (rwAt rows j).c (rwAt rows j).l
  far : ∀ i j : Nat, i < m → j < m → i ≠ j → ∀ g, blkOf (rwAt rows i).A = some g → blkOf (rwAt rows j).A ≠ some g
  nw : ∀ j, j < m → blkOf (rwAt rows j).A ≠ some gw
  hlo : lo ≤ P
  rl : rows.length = m
  wl : c.wants.length = m
theorem CrefIn.below {w w' : World} {lo P m gw gt kc B : Nat} {Ac : Option Addr} {rows : List (Sls Int)} {c : Cw} (h : CrefIn w lo P m gw gt Ac kc rows c) (hb : Below B w w') (hB : w.heap.size ≤ B) : CrefIn w' lo P m gw gt Ac kc rows c :=
  ⟨h.blk.below hb (by have := h.blk.lt; omega), h.cod.below hb hB, h.wnt.below hb hB, h.tab.below hb hB, h.tsk, fun j hj => (h.row j hj).below hb hB, h.far, h.nw, h.hlo, h.rl, h.wl⟩
theorem CrefIn.alloc {w : World} {lo P m gw gt kc : Nat} {Ac : Option Addr} {rows : List (Sls Int)} {c : Cw} (h : CrefIn w lo P m gw gt Ac kc rows c) (o : Obj) : CrefIn (w.alloc o) lo P m gw gt Ac kc rows c := h.below ((Below.refl _ w).alloc (Nat.le_refl _) o) (Nat.le_refl _)
theorem CrefIn.drew {w : World} {lo P m gw gt kc : Nat} {Ac : Option Addr} {rows : List (Sls Int)} {c : Cw} (h : CrefIn w lo P m gw gt Ac kc rows c) : CrefIn w.drew lo P m gw gt Ac kc rows c := h.below (Below.refl _ w).drew (Nat.le_refl _)

/-- A row of the table is put. -/
theorem CrefIn.put {w w2 : World} {lo P m gw gt kc k : Nat} {Ac : Option Addr} {rows : List (Sls Int)} {c : Cw} {s : Sls Int} (h : CrefIn w lo P m gw gt Ac kc rows c) (hk : k < m)
    (hblk : Blk w2 P 30 #[.slice Ac c.codes.length kc, .int .u32 (wN c.inn), .slice (some ⟨gw, 0, none⟩) m m, .slice (some ⟨gt, 0, none⟩) m m])
    (hcod : Own w2 lo 31 1 icell Ac kc c.codes) (hwnt : Own w2 lo 3 1 icell (some ⟨gw, 0, none⟩) m c.wants) (htab : Own w2 lo 27 1 slcell (some ⟨gt, 0, none⟩) m rows)
    (hrow : ∀ j, j < m → j ≠ k → Own w2 lo 3 1 icell (rwAt rows j).A (rwAt rows j).c (rwAt rows j).l) (hs : Own w2 lo 3 1 icell s.A s.c s.l)
    (hfar : ∀ j, j < m → j ≠ k → ∀ g, blkOf s.A = some g → blkOf (rwAt rows j).A ≠ some g) (hnw : blkOf s.A ≠ some gw) :
    CrefIn (w2.setCell ⟨gt, k, none⟩ s.val) lo P m gw gt Ac kc (rows.set k s) { c with tasks := c.tasks.set k s.l } := by
  have hkl : k < rows.length := by rw [h.rl]; exact hk
  have hat : ∀ j, rwAt (rows.set k s) j = if k = j then s else rwAt rows j := fun j => getD_set_any rows k j s _ hkl
  have hty : ∀ {α : Type} {B cc cap : Nat} {e : TypeId} {f : α → List Value} {A : Option Addr} {l : List α}, Own w2 B e cc f A cap l → e ≠ 27 → Own (w2.setCell ⟨gt, k, none⟩ s.val) B e cc f A cap l := fun ho he =>
    ho.far (p := ⟨gt, k, none⟩) (fun e => by
      obtain ⟨cur, hcur⟩ := own_cellsAt ho e
      exact own_far_blk htab hcur (fun e => he e.symm) rfl) _
  refine ⟨hblk.far (p := ⟨gt, k, none⟩) (fun e => own_far_blk htab hblk (by decide) (by rw [e]; rfl)) _, hty hcod (by decide), hty hwnt (by decide), htab.put1 (f := fun s : Sls Int => s.val) hkl, ?_, fun j hj => ?_, fun i j hi hj hne g hg => ?_, fun j hj => ?_, h.hlo, by rw [List.length_set]; exact h.rl, h.wl⟩
  · rw [List.map_set, h.tsk]
  · rw [hat]
    split
    · exact hty hs (by decide)
    · exact hty (hrow j hj (fun e => by omega)) (by decide)
  · rw [hat] at hg ⊢
    split at hg
    · rename_i h1
      rw [if_neg (by omega)]
      exact hfar j hj (by omega) g hg
    · rename_i h1
      split
      · rename_i h2
        intro e
        exact hfar i hi (by omega) g e hg
      · exact h.far i j hi hj hne g hg
  · rw [hat]
    split
    · exact hnw
    · exact h.nw j hj
theorem CrefIn.same {w : World} {lo P m gw gt kc : Nat} {Ac : Option Addr} {rows : List (Sls Int)} {c c' : Cw} (h : CrefIn w lo P m gw gt Ac kc rows c) (he : c' = c) : CrefIn w lo P m gw gt Ac kc rows c' := by rw [he]; exact h
theorem CrefIn.join {w : World} {lo P m gw gt kc : Nat} {Ac : Option Addr} {rows : List (Sls Int)} {c : Cw} (h : CrefIn w lo P m gw gt Ac kc rows c) (x : BitVec 32) : CrefIn (w.setCell ⟨P, 1, none⟩ (.int .u32 (wN x))) lo P m gw gt Ac kc rows { c with inn := x } := by
  have hk2 := h.blk.put 1 (.int .u32 (wN x))
  have hfar : ∀ {α : Type} {B cc cap : Nat} {e : TypeId} {f : α → List Value} {A : Option Addr} {l : List α}, Own w B e cc f A cap l → e ≠ 30 → Own (w.setCell ⟨P, 1, none⟩ (.int .u32 (wN x))) B e cc f A cap l := fun ho he =>
    ho.far (p := ⟨P, 1, none⟩) (fun e => own_far_blk ho h.blk he e) _
  exact ⟨hk2, hfar h.cod (by decide), hfar h.wnt (by decide), hfar h.tab (by decide), h.tsk, fun j hj => hfar (h.row j hj) (by decide), h.far, h.nw, h.hlo, h.rl, h.wl⟩
theorem cref_start {X : World} {lo P m gw gt : Nat} (hk : Blk X P 30 #[.slice none 0 0, .int .u32 0, .slice (some ⟨gw, 0, none⟩) m m, .slice (some ⟨gt, 0, none⟩) m m]) (hw : Blk X gw 3 (madeCells #[.int .i64 0] m)) (ht : Blk X gt 27 (madeCells #[.slice none 0 0] m)) (hm : m ≤ maxLen) (h1 : lo ≤ P) (h2 : lo ≤ gw) (h3 : lo ≤ gt) :
    CrefIn X lo P m gw gt none 0 (List.replicate m ⟨none, 0, []⟩) (startF m) := by
  have hrw : ∀ j, rwAt (List.replicate m (⟨none, 0, []⟩ : Sls Int)) j = ⟨none, 0, []⟩ := fun j => by
    unfold rwAt
    rw [List.getD_eq_getElem?_getD, List.getElem?_replicate]
    split <;> rfl
  refine ⟨hk, Own.nil _ _ _ (fun _ => rfl), Own.block1 (f := fun x : Int => .int .i64 x) (x0 := 0) hw hm h2, Own.block1 (f := fun s : Sls Int => s.val) (x0 := ⟨none, 0, []⟩) ht hm h3, ?_, fun j _ => ?_, fun i j _ _ _ g hg => ?_, fun j _ => ?_, h1, List.length_replicate, List.length_replicate⟩
  · simp [startF]
  · rw [hrw]; exact Own.nil _ _ _ (fun _ => rfl)
  · rw [hrw] at hg; cases hg
  · rw [hrw]; simp [blkOf]
theorem CrefIn.kept {w w2 : World} {lo P m gw gt kc q : Nat} {Ac : Option Addr} {rows : List (Sls Int)} {c : Cw} (h : CrefIn w lo P m gw gt Ac kc rows c) (hg : w.grownBy w2 (some q)) (hq : q < lo) : CrefIn w2 lo P m gw gt Ac kc rows c := by
  have hf : ∀ {α : Type} {cc cap : Nat} {e : TypeId} {f : α → List Value} {A : Option Addr} {l : List α}, Own w lo e cc f A cap l → Own w2 lo e cc f A cap l := fun {α cc cap e f A l} ho => by
    refine ho.kept hg ?_
    cases hA : blkOf A with
    | none => exact .inl rfl
    | some g =>
      refine .inr fun e => ?_
      have := (ho.lt g hA).1
      have : g = q := by simpa using e
      omega
  exact ⟨h.blk.grown hg (fun e => by
    have h5 := h.hlo
    have h6 : P = q := by simpa using e
    omega), hf h.cod, hf h.wnt, hf h.tab, h.tsk, fun j hj => hf (h.row j hj), h.far, h.nw, h.hlo, h.rl, h.wl⟩
theorem CrefIn.weaken {w : World} {lo lo' P m gw gt kc : Nat} {Ac : Option Addr} {rows : List (Sls Int)} {c : Cw} (h : CrefIn w lo P m gw gt Ac kc rows c) (hl : lo' ≤ lo) : CrefIn w lo' P m gw gt Ac kc rows c :=
  ⟨h.blk, h.cod.weaken hl, h.wnt.weaken hl, h.tab.weaken hl, h.tsk, fun j hj => (h.row j hj).weaken hl, h.far, h.nw, by have := h.hlo; omega, h.rl, h.wl⟩
theorem CrefIn.code {w w2 : World} {lo P m gw gt kc cap n : Nat} {Ac A2 : Option Addr} {rows : List (Sls Int)} {c : Cw} {l : List Int} (h : CrefIn w lo P m gw gt Ac kc rows c) (ho : Own w2 lo 31 1 icell A2 cap l) (hg : w.grownBy w2 (blkOf Ac)) (hn : l.length = n) :
    CrefIn (w2.setCell ⟨P, 0, none⟩ (.slice A2 n cap)) lo P m gw gt A2 cap rows { c with codes := l } := by
  subst hn
  have hf : ∀ {α : Type} {cc cap : Nat} {e : TypeId} {f : α → List Value} {A : Option Addr} {l : List α}, Own w lo e cc f A cap l → e ≠ 31 → Own w2 lo e cc f A cap l := fun {α cc cap e f A l} ho he => by
    refine ho.kept hg ?_
    cases hA : blkOf A with
    | none => exact .inl rfl
    | some g =>
      refine .inr fun e => ?_
      obtain ⟨cur, hcur⟩ := own_cellsAt ho hA
      exact own_far_blk h.cod hcur (fun e => he e.symm) e.symm
  have hk := h.blk.grown hg (fun e => own_far_blk h.cod h.blk (by decide) e.symm)
  have hfar : ∀ {α : Type} {B cc cap : Nat} {e : TypeId} {f : α → List Value} {A : Option Addr} {l : List α}, Own w2 B e cc f A cap l → e ≠ 30 → Own (w2.setCell ⟨P, 0, none⟩ (.slice A2 l.length cap)) B e cc f A cap l := fun ho he =>
    ho.far (p := ⟨P, 0, none⟩) (fun e => own_far_blk ho hk he e) _
  have hfar : ∀ {α : Type} {B cc cap' : Nat} {e : TypeId} {f : α → List Value} {A : Option Addr} {l' : List α}, Own w2 B e cc f A cap' l' → e ≠ 30 → Own (w2.setCell ⟨P, 0, none⟩ (.slice A2 l.length cap)) B e cc f A cap' l' := fun ho he =>
    ho.far (p := ⟨P, 0, none⟩) (fun e => own_far_blk ho hk he e) _
  exact ⟨hk.put 0 _, hfar ho (by decide), hfar (hf h.wnt (by decide)) (by decide), hfar (hf h.tab (by decide)) (by decide), h.tsk, fun j hj => hfar (hf (h.row j hj) (by decide)) (by decide), h.far, h.nw, h.hlo, h.rl, h.wl⟩
/-- A want is put. -/
theorem CrefIn.want {w : World} {lo P m gw gt kc s : Nat} {Ac : Option Addr} {rows : List (Sls Int)} {c : Cw} {n : Int} (h : CrefIn w lo P m gw gt Ac kc rows c) (hs : s < m) : CrefIn (w.setCell ⟨gw, s, none⟩ (.int .i64 n)) lo P m gw gt Ac kc rows { c with wants := c.wants.set s n } := by
  have hsl : s < c.wants.length := by rw [h.wl]; exact hs
  refine ⟨h.blk.far (p := ⟨gw, s, none⟩) (fun e => own_far_blk h.wnt h.blk (by decide) (by rw [e]; rfl)) _, h.cod.far (p := ⟨gw, s, none⟩) (fun e => ?_) _, h.wnt.put1 (f := fun x : Int => .int .i64 x) hsl, h.tab.far (p := ⟨gw, s, none⟩) (fun e => ?_) _, h.tsk, fun q hq => (h.row q hq).far (p := ⟨gw, s, none⟩) (h.nw q hq) _, h.far, h.nw, h.hlo, h.rl, by rw [List.length_set]; exact h.wl⟩
  · obtain ⟨cur, hcur⟩ := own_cellsAt h.cod e
    exact own_far_blk h.wnt hcur (by decide) rfl
  · obtain ⟨cur, hcur⟩ := own_cellsAt h.tab e
    exact own_far_blk h.wnt hcur (by decide) rfl
end Go.Proofs.Ytdinknpagklkjaa

/- The document's change: wrong ones, the wish, the joining. Conditions: the crew lies in memory. -/
namespace Go.Proofs.Ytdinknpagklkjaa
open Go.RowKit
attribute [local go_sem ↓] w_and w_or w_xor w_andNot w_and1 w_and255 w_xor1 w_or0 w_shl w_shl1 w_shr w_sub w_add w_sub1 w_add1
attribute [local go_sem] w_eq0 w_ne0 w_eq1 w_eq w_ne
attribute [local go_sem] Oper.semAt_some

theorem add_or {x : BitVec 32} {i : Nat} (h : bitB x i = false) : wAdd x (wShl w1 i) = wOr x (wShl w1 i) := by
  rw [bitB_nat] at h
  have h2 := and_shl_ne x i
  rw [h] at h2
  have h3 : x &&& 1#32 <<< i = 0#32 := by simpa using h2
  exact BitVec.add_eq_or_of_and_eq_zero x (1#32 <<< i) h3
theorem sub_but {x : BitVec 32} {i : Nat} (h : bitB x i = true) : wSub x (wShl w1 i) = wBut x (wShl w1 i) := by
  rw [bitB_nat] at h
  have hz : (x &&& ~~~(1#32 <<< i)) &&& (1#32 <<< i) = 0#32 := by
    rw [BitVec.and_assoc]
    simp
  have hs := BitVec.add_eq_or_of_and_eq_zero _ _ hz
  have ho : (x &&& ~~~(1#32 <<< i)) ||| (1#32 <<< i) = x := by
    apply BitVec.eq_of_getLsbD_eq
    intro j hj
    simp only [BitVec.getLsbD_or, BitVec.getLsbD_and, BitVec.getLsbD_not, BitVec.getLsbD_shiftLeft, hj, decide_true, Bool.true_and]
    by_cases hji : j = i
    · subst hji
      simp [h]
    · have : ((1#32).getLsbD (j - i)) = decide (j - i = 0) := by simp
      rw [this]
      by_cases hlt : j < i
      · simp [hlt]
      · have : ¬ (j - i = 0) := by omega
        simp [this]
  show x - 1#32 <<< i = x &&& ~~~(1#32 <<< i)
  rw [ho] at hs
  conv => lhs; lhs; rw [← hs]
  rw [BitVec.add_sub_cancel]
set_option maxRecDepth 100000 in
set_option maxHeartbeats 1000000 in
theorem cref_kind (A B : Option Addr) (W cA cB lo P m gw gt kc : Nat) (Ac : Option Addr) (rows : List (Sls Int)) (c : Cw) (K who n : Int) (w : World) (h : CrefIn w lo P m gw gt Ac kc rows c) (hK : K < 1 ∨ 4 < K) :
    Calls Try.prog 83 #[.pointer (some ⟨P, 0, none⟩), .slice A W cA, .slice B m cB, .agg #[.int .i64 K, .int .i64 who, .int .i64 n]] w fun e w' => e = .returned (.int .i64 6) ∧ Below lo w w' ∧ CrefIn w' lo P m gw gt Ac kc rows c := by
  have hZ := Blk.new w 41 #[.int .i64 K, .int .i64 who, .int .i64 n]
  have h1 := h.alloc (.cells #[.int .i64 K, .int .i64 who, .int .i64 n] 41)
  have hloz : lo ≤ w.heap.size := by have := h.blk.lt; have := h.hlo; omega
  have hb1 := (Below.refl lo w).alloc hloz (.cells #[.int .i64 K, .int .i64 who, .int .i64 n] 41)
  have z0 := hZ.cell 0
  have z1 := hZ.cell 1
  have z2 := hZ.cell 2
  have c1 := h1.blk.cell 1
  have c2 := h1.blk.cell 2
  have c3 := h1.blk.cell 3
  obtain ⟨V, hV⟩ : ∃ V, V = w.alloc (.cells #[.int .i64 K, .int .i64 who, .int .i64 n] 41) := ⟨_, rfl⟩
  obtain ⟨Z, hZe⟩ : ∃ Z, Z = w.heap.size := ⟨_, rfl⟩
  rw [← hV] at h1 hb1 hZ
  rw [← hZe] at hZ
  have H := Lib.hid h1
  have HB := Lib.hid hb1
  have HV := Lib.hid hV
  have HZ := Lib.hid hZ
  have HZE := Lib.hid hZe
  clear h hZ h1 hb1 hV hZe
  have k1 : (K == 1) = false := by simp; omega
  have k2 : (K == 2) = false := by simp; omega
  have k3 : (K == 3) = false := by simp; omega
  have k4 : (K == 4) = false := by simp; omega
  have n1 : (K != 1) = true := by simp; omega
  have n2 : (K != 2) = true := by simp; omega
  have n3 : (K != 3) = true := by simp; omega
  clear hK
  go_enter Try.func83, Try.ntmps83
  go_wp2_with fail
  rw [← HV.out]
  go_ret
  exact ⟨ret_i64 rfl, HB.out, H.out⟩
set_option maxRecDepth 100000 in
set_option maxHeartbeats 1000000 in
theorem cref_neg1 (A B : Option Addr) (W cA cB lo P m gw gt kc : Nat) (Ac : Option Addr) (rows : List (Sls Int)) (c : Cw) (who n : Int) (w : World) (h : CrefIn w lo P m gw gt Ac kc rows c) (hwho : who < 0) :
    Calls Try.prog 83 #[.pointer (some ⟨P, 0, none⟩), .slice A W cA, .slice B m cB, .agg #[.int .i64 1, .int .i64 who, .int .i64 n]] w fun e w' => e = .returned (.int .i64 2) ∧ Below lo w w' ∧ CrefIn w' lo P m gw gt Ac kc rows c := by
  have hZ := Blk.new w 41 #[.int .i64 1, .int .i64 who, .int .i64 n]
  have h1 := h.alloc (.cells #[.int .i64 1, .int .i64 who, .int .i64 n] 41)
  have hloz : lo ≤ w.heap.size := by have := h.blk.lt; have := h.hlo; omega
  have hb1 := (Below.refl lo w).alloc hloz (.cells #[.int .i64 1, .int .i64 who, .int .i64 n] 41)
  have z0 := hZ.cell 0
  have z1 := hZ.cell 1
  have z2 := hZ.cell 2
  have c1 := h1.blk.cell 1
  have c2 := h1.blk.cell 2
  have c3 := h1.blk.cell 3
  obtain ⟨V, hV⟩ : ∃ V, V = w.alloc (.cells #[.int .i64 1, .int .i64 who, .int .i64 n] 41) := ⟨_, rfl⟩
  obtain ⟨Z, hZe⟩ : ∃ Z, Z = w.heap.size := ⟨_, rfl⟩
  rw [← hV] at h1 hb1 hZ
  rw [← hZe] at hZ
  have H := Lib.hid h1
  have HB := Lib.hid hb1
  have HV := Lib.hid hV
  have HZ := Lib.hid hZ
  have HZE := Lib.hid hZe
  clear h hZ h1 hb1 hV hZe
  go_enter Try.func83, Try.ntmps83
  go_wp2_with fail
  rw [← HV.out]
  go_ret
  exact ⟨ret_i64 rfl, HB.out, H.out⟩
set_option maxRecDepth 100000 in
set_option maxHeartbeats 1000000 in
theorem cref_big1 (A B : Option Addr) (W cA cB lo P m gw gt kc : Nat) (Ac : Option Addr) (rows : List (Sls Int)) (c : Cw) (who n : Int) (w : World) (h : CrefIn w lo P m gw gt Ac kc rows c) (hwho : (W : Int) ≤ who) :
    Calls Try.prog 83 #[.pointer (some ⟨P, 0, none⟩), .slice A W cA, .slice B m cB, .agg #[.int .i64 1, .int .i64 who, .int .i64 n]] w fun e w' => e = .returned (.int .i64 2) ∧ Below lo w w' ∧ CrefIn w' lo P m gw gt Ac kc rows c := by
  have hZ := Blk.new w 41 #[.int .i64 1, .int .i64 who, .int .i64 n]
  have h1 := h.alloc (.cells #[.int .i64 1, .int .i64 who, .int .i64 n] 41)
  have hloz : lo ≤ w.heap.size := by have := h.blk.lt; have := h.hlo; omega
  have hb1 := (Below.refl lo w).alloc hloz (.cells #[.int .i64 1, .int .i64 who, .int .i64 n] 41)
  have z0 := hZ.cell 0
  have z1 := hZ.cell 1
  have z2 := hZ.cell 2
  have c1 := h1.blk.cell 1
  have c2 := h1.blk.cell 2
  have c3 := h1.blk.cell 3
  obtain ⟨V, hV⟩ : ∃ V, V = w.alloc (.cells #[.int .i64 1, .int .i64 who, .int .i64 n] 41) := ⟨_, rfl⟩
  obtain ⟨Z, hZe⟩ : ∃ Z, Z = w.heap.size := ⟨_, rfl⟩
  rw [← hV] at h1 hb1 hZ
  rw [← hZe] at hZ
  have H := Lib.hid h1
  have HB := Lib.hid hb1
  have HV := Lib.hid hV
  have HZ := Lib.hid hZ
  have HZE := Lib.hid hZe
  clear h hZ h1 hb1 hV hZe
  have hw0 : ¬ who < 0 := by omega
  go_enter Try.func83, Try.ntmps83
  go_wp2_with fail
  rw [← HV.out]
  go_ret
  exact ⟨ret_i64 rfl, HB.out, H.out⟩
set_option maxRecDepth 100000 in
set_option maxHeartbeats 1000000 in
theorem cref_neg2 (A B : Option Addr) (W cA cB lo P m gw gt kc : Nat) (Ac : Option Addr) (rows : List (Sls Int)) (c : Cw) (who n : Int) (w : World) (h : CrefIn w lo P m gw gt Ac kc rows c) (hwho : who < 0) :
    Calls Try.prog 83 #[.pointer (some ⟨P, 0, none⟩), .slice A W cA, .slice B m cB, .agg #[.int .i64 2, .int .i64 who, .int .i64 n]] w fun e w' => e = .returned (.int .i64 2) ∧ Below lo w w' ∧ CrefIn w' lo P m gw gt Ac kc rows c := by
  have hZ := Blk.new w 41 #[.int .i64 2, .int .i64 who, .int .i64 n]
  have h1 := h.alloc (.cells #[.int .i64 2, .int .i64 who, .int .i64 n] 41)
  have hloz : lo ≤ w.heap.size := by have := h.blk.lt; have := h.hlo; omega
  have hb1 := (Below.refl lo w).alloc hloz (.cells #[.int .i64 2, .int .i64 who, .int .i64 n] 41)
  have z0 := hZ.cell 0
  have z1 := hZ.cell 1
  have z2 := hZ.cell 2
  have c1 := h1.blk.cell 1
  have c2 := h1.blk.cell 2
  have c3 := h1.blk.cell 3
  obtain ⟨V, hV⟩ : ∃ V, V = w.alloc (.cells #[.int .i64 2, .int .i64 who, .int .i64 n] 41) := ⟨_, rfl⟩
  obtain ⟨Z, hZe⟩ : ∃ Z, Z = w.heap.size := ⟨_, rfl⟩
  rw [← hV] at h1 hb1 hZ
  rw [← hZe] at hZ
  have H := Lib.hid h1
  have HB := Lib.hid hb1
  have HV := Lib.hid hV
  have HZ := Lib.hid hZ
  have HZE := Lib.hid hZe
  clear h hZ h1 hb1 hV hZe
  go_enter Try.func83, Try.ntmps83
  go_wp2_with fail
  rw [← HV.out]
  go_ret
  exact ⟨ret_i64 rfl, HB.out, H.out⟩
set_option maxRecDepth 100000 in
set_option maxHeartbeats 1000000 in
theorem cref_big2 (A B : Option Addr) (W cA cB lo P m gw gt kc : Nat) (Ac : Option Addr) (rows : List (Sls Int)) (c : Cw) (who n : Int) (w : World) (h : CrefIn w lo P m gw gt Ac kc rows c) (hwho : (W : Int) ≤ who) :
    Calls Try.prog 83 #[.pointer (some ⟨P, 0, none⟩), .slice A W cA, .slice B m cB, .agg #[.int .i64 2, .int .i64 who, .int .i64 n]] w fun e w' => e = .returned (.int .i64 2) ∧ Below lo w w' ∧ CrefIn w' lo P m gw gt Ac kc rows c := by
  have hZ := Blk.new w 41 #[.int .i64 2, .int .i64 who, .int .i64 n]
  have h1 := h.alloc (.cells #[.int .i64 2, .int .i64 who, .int .i64 n] 41)
  have hloz : lo ≤ w.heap.size := by have := h.blk.lt; have := h.hlo; omega
  have hb1 := (Below.refl lo w).alloc hloz (.cells #[.int .i64 2, .int .i64 who, .int .i64 n] 41)
  have z0 := hZ.cell 0
  have z1 := hZ.cell 1
  have z2 := hZ.cell 2
  have c1 := h1.blk.cell 1
  have c2 := h1.blk.cell 2
  have c3 := h1.blk.cell 3
  obtain ⟨V, hV⟩ : ∃ V, V = w.alloc (.cells #[.int .i64 2, .int .i64 who, .int .i64 n] 41) := ⟨_, rfl⟩
  obtain ⟨Z, hZe⟩ : ∃ Z, Z = w.heap.size := ⟨_, rfl⟩
  rw [← hV] at h1 hb1 hZ
  rw [← hZe] at hZ
  have H := Lib.hid h1
  have HB := Lib.hid hb1
  have HV := Lib.hid hV
  have HZ := Lib.hid hZ
  have HZE := Lib.hid hZe
  clear h hZ h1 hb1 hV hZe
  have hw0 : ¬ who < 0 := by omega
  go_enter Try.func83, Try.ntmps83
  go_wp2_with fail
  rw [← HV.out]
  go_ret
  exact ⟨ret_i64 rfl, HB.out, H.out⟩
set_option maxRecDepth 100000 in
set_option maxHeartbeats 1000000 in
theorem cref_neg3 (A B : Option Addr) (W cA cB lo P m gw gt kc : Nat) (Ac : Option Addr) (rows : List (Sls Int)) (c : Cw) (who n : Int) (w : World) (h : CrefIn w lo P m gw gt Ac kc rows c) (hwho : who < 0) :
    Calls Try.prog 83 #[.pointer (some ⟨P, 0, none⟩), .slice A W cA, .slice B m cB, .agg #[.int .i64 3, .int .i64 who, .int .i64 n]] w fun e w' => e = .returned (.int .i64 2) ∧ Below lo w w' ∧ CrefIn w' lo P m gw gt Ac kc rows c := by
  have hZ := Blk.new w 41 #[.int .i64 3, .int .i64 who, .int .i64 n]
  have h1 := h.alloc (.cells #[.int .i64 3, .int .i64 who, .int .i64 n] 41)
  have hloz : lo ≤ w.heap.size := by have := h.blk.lt; have := h.hlo; omega
  have hb1 := (Below.refl lo w).alloc hloz (.cells #[.int .i64 3, .int .i64 who, .int .i64 n] 41)
  have z0 := hZ.cell 0
  have z1 := hZ.cell 1
  have z2 := hZ.cell 2
  have c1 := h1.blk.cell 1
  have c2 := h1.blk.cell 2
  have c3 := h1.blk.cell 3
  obtain ⟨V, hV⟩ : ∃ V, V = w.alloc (.cells #[.int .i64 3, .int .i64 who, .int .i64 n] 41) := ⟨_, rfl⟩
  obtain ⟨Z, hZe⟩ : ∃ Z, Z = w.heap.size := ⟨_, rfl⟩
  rw [← hV] at h1 hb1 hZ
  rw [← hZe] at hZ
  have H := Lib.hid h1
  have HB := Lib.hid hb1
  have HV := Lib.hid hV
  have HZ := Lib.hid hZ
  have HZE := Lib.hid hZe
  clear h hZ h1 hb1 hV hZe
  go_enter Try.func83, Try.ntmps83
  go_wp2_with fail
  rw [← HV.out]
  go_ret
  exact ⟨ret_i64 rfl, HB.out, H.out⟩
set_option maxRecDepth 100000 in
set_option maxHeartbeats 1000000 in
theorem cref_big3 (A B : Option Addr) (W cA cB lo P m gw gt kc : Nat) (Ac : Option Addr) (rows : List (Sls Int)) (c : Cw) (who n : Int) (w : World) (h : CrefIn w lo P m gw gt Ac kc rows c) (hwho : (m : Int) ≤ who) :
    Calls Try.prog 83 #[.pointer (some ⟨P, 0, none⟩), .slice A W cA, .slice B m cB, .agg #[.int .i64 3, .int .i64 who, .int .i64 n]] w fun e w' => e = .returned (.int .i64 2) ∧ Below lo w w' ∧ CrefIn w' lo P m gw gt Ac kc rows c := by
  have hZ := Blk.new w 41 #[.int .i64 3, .int .i64 who, .int .i64 n]
  have h1 := h.alloc (.cells #[.int .i64 3, .int .i64 who, .int .i64 n] 41)
  have hloz : lo ≤ w.heap.size := by have := h.blk.lt; have := h.hlo; omega
  have hb1 := (Below.refl lo w).alloc hloz (.cells #[.int .i64 3, .int .i64 who, .int .i64 n] 41)
  have z0 := hZ.cell 0
  have z1 := hZ.cell 1
  have z2 := hZ.cell 2
  have c1 := h1.blk.cell 1
  have c2 := h1.blk.cell 2
  have c3 := h1.blk.cell 3
  obtain ⟨V, hV⟩ : ∃ V, V = w.alloc (.cells #[.int .i64 3, .int .i64 who, .int .i64 n] 41) := ⟨_, rfl⟩
  obtain ⟨Z, hZe⟩ : ∃ Z, Z = w.heap.size := ⟨_, rfl⟩
  rw [← hV] at h1 hb1 hZ
  rw [← hZe] at hZ
  have H := Lib.hid h1
  have HB := Lib.hid hb1
  have HV := Lib.hid hV
  have HZ := Lib.hid hZ
  have HZE := Lib.hid hZe
  clear h hZ h1 hb1 hV hZe
  have hw0 : ¬ who < 0 := by omega
  go_enter Try.func83, Try.ntmps83
  go_wp2_with fail
  rw [← HV.out]
  go_ret
  exact ⟨ret_i64 rfl, HB.out, H.out⟩
set_option maxRecDepth 100000 in
set_option maxHeartbeats 1000000 in
theorem cref_wneg (A B : Option Addr) (W cA cB lo P m gw gt kc : Nat) (Ac : Option Addr) (rows : List (Sls Int)) (c : Cw) (s : Nat) (n : Int) (w : World) (h : CrefIn w lo P m gw gt Ac kc rows c) (hs : s < m) (hn : n < 0) :
    Calls Try.prog 83 #[.pointer (some ⟨P, 0, none⟩), .slice A W cA, .slice B m cB, .agg #[.int .i64 3, .int .i64 s, .int .i64 n]] w fun e w' => e = .returned (.int .i64 4) ∧ Below lo w w' ∧ CrefIn w' lo P m gw gt Ac kc rows c := by
  have hZ := Blk.new w 41 #[.int .i64 3, .int .i64 s, .int .i64 n]
  have h1 := h.alloc (.cells #[.int .i64 3, .int .i64 s, .int .i64 n] 41)
  have hloz : lo ≤ w.heap.size := by have := h.blk.lt; have := h.hlo; omega
  have hb1 := (Below.refl lo w).alloc hloz (.cells #[.int .i64 3, .int .i64 s, .int .i64 n] 41)
  have z0 := hZ.cell 0
  have z1 := hZ.cell 1
  have z2 := hZ.cell 2
  have c1 := h1.blk.cell 1
  have c2 := h1.blk.cell 2
  have c3 := h1.blk.cell 3
  obtain ⟨V, hV⟩ : ∃ V, V = w.alloc (.cells #[.int .i64 3, .int .i64 s, .int .i64 n] 41) := ⟨_, rfl⟩
  obtain ⟨Z, hZe⟩ : ∃ Z, Z = w.heap.size := ⟨_, rfl⟩
  rw [← hV] at h1 hb1 hZ
  rw [← hZe] at hZ
  have H := Lib.hid h1
  have HB := Lib.hid hb1
  have HV := Lib.hid hV
  have HZ := Lib.hid hZ
  have HZE := Lib.hid hZe
  clear h hZ h1 hb1 hV hZe
  go_enter Try.func83, Try.ntmps83
  go_wp2_with fail
  rw [← HV.out]
  go_ret
  exact ⟨ret_i64 rfl, HB.out, H.out⟩
set_option maxRecDepth 100000 in
set_option maxHeartbeats 1000000 in
theorem cref_want (A B : Option Addr) (W cA cB lo P m gw gt kc : Nat) (Ac : Option Addr) (rows : List (Sls Int)) (c : Cw) (s : Nat) (n : Int) (w : World) (h : CrefIn w lo P m gw gt Ac kc rows c) (hs : s < m) (hm : m ≤ 12) (hn : ¬ n < 0) (h0 : ∀ n ∈ c.wants, 0 ≤ n) (h12 : c.wants.sum ≤ 12) :
    Calls Try.prog 83 #[.pointer (some ⟨P, 0, none⟩), .slice A W cA, .slice B m cB, .agg #[.int .i64 3, .int .i64 s, .int .i64 n]] w fun e w' => e = .returned (.int .i64 (wantE c.wants s n)) ∧ Below lo w w' ∧ CrefIn w' lo P m gw gt Ac kc rows (wantC c s n) := by
  have hob := fun k hk => oth_bound h0 s k hk
  have HOB := Lib.hid hob
  have HWL := Lib.hid h.wl
  have hZ := Blk.new w 41 #[.int .i64 3, .int .i64 s, .int .i64 n]
  have h1 := h.alloc (.cells #[.int .i64 3, .int .i64 s, .int .i64 n] 41)
  have hloz : lo ≤ w.heap.size := by have := h.blk.lt; have := h.hlo; omega
  have hb1 := (Below.refl lo w).alloc hloz (.cells #[.int .i64 3, .int .i64 s, .int .i64 n] 41)
  have z0 := hZ.cell 0
  have z1 := hZ.cell 1
  have z2 := hZ.cell 2
  have c1 := h1.blk.cell 1
  have c2 := h1.blk.cell 2
  have c3 := h1.blk.cell 3
  obtain ⟨V, hV⟩ : ∃ V, V = w.alloc (.cells #[.int .i64 3, .int .i64 s, .int .i64 n] 41) := ⟨_, rfl⟩
  obtain ⟨Z, hZe⟩ : ∃ Z, Z = w.heap.size := ⟨_, rfl⟩
  rw [← hV] at h1 hb1 hZ
  rw [← hZe] at hZ
  have H := Lib.hid h1
  have HB := Lib.hid hb1
  have HV := Lib.hid hV
  have HZ := Lib.hid hZ
  have HZE := Lib.hid hZe
  clear h hZ h1 hb1 hV hZe
  clear h0 hob
  go_enter Try.func83, Try.ntmps83
  go_wp2_with fail
  rw [← HV.out, ← HZE.out]
  rw [← HV.out, ← HZE.out] at z0 z1 z2
  rw [← HV.out] at c1 c2 c3
  go_loop [178, 20] (fun s178 s20 => ∃ k : Nat, k ≤ m ∧ s178 = .int .i64 k ∧ s20 = .int .i64 (othTo c.wants s k)) (fun s178 _ => m - (intOf s178).toNat)
  case atStart => exact ⟨0, Nat.zero_le _, rfl, rfl⟩
  case round =>
    obtain ⟨k, hk, rfl, rfl⟩ := hrel
    have hsu := othTo_succ c.wants s k
    have hb1 := HOB.out k (by rw [HWL.out]; exact hk)
    by_cases hkm : k < m
    · have hkl : k < c.wants.length := by rw [HWL.out]; exact hkm
      obtain ⟨g', hg', _, _, r0, _⟩ := H.out.wnt.cell1 hkl
      have : gw = g' := by simpa using hg'
      subst this
      rw [← getD_at _ k hkl 0] at r0
      have hb2 := HOB.out (k + 1) (by rw [HWL.out]; exact hkm)
      obtain ⟨y, hy⟩ : ∃ y, y = c.wants.getD k 0 := ⟨_, rfl⟩
      rw [← hy] at r0 hsu
      obtain ⟨z, hz⟩ : ∃ z, z = othTo c.wants s k := ⟨_, rfl⟩
      rw [← hz] at hsu hb1 ⊢
      by_cases hks : k = s
      · rw [if_pos hks] at hsu
        have HSU := Lib.hid hsu
        have hks2 : ((k : Int) != (s : Int)) = false := by simp [hks]
        clear hsu hy hz hks
        go_wp2_with fail
        go_round
        case rel => exact ⟨k + 1, by omega, by go_num, by rw [HSU.out]⟩
        case measure => simp [intOf]; omega
      · rw [if_neg hks] at hsu
        have HSU := Lib.hid hsu
        have hks2 : ((k : Int) != (s : Int)) = true := by simp; omega
        have hw : IntKind.i64.wrap (z + y) = z + y := IntWalk.i64_in _ (by rw [hsu] at hb2; omega)
        clear hsu hy hz
        go_wp2_with fail
        go_round
        case rel => exact ⟨k + 1, by omega, by go_num, by rw [HSU.out]⟩
        case measure => simp [intOf]; omega
    · obtain rfl : k = m := by omega
      obtain ⟨z, hz⟩ : ∃ z, z = othTo c.wants s k := ⟨_, rfl⟩
      rw [← hz] at hb1 ⊢
      have he : wantE c.wants s n = if 12 - z < n then 1 else 0 := by
        unfold wantE
        rw [if_neg (by omega), HWL.out, ← hz]
      by_cases hbig : 12 - z < n
      · rw [if_pos hbig] at he
        have HE := Lib.hid he
        clear hz he hsu
        by_cases hn12 : 12 < n
        · go_wp2_with fail
          go_ret
          exact ⟨ret_i64 HE.out.symm, HB.out, by unfold wantC; rw [HE.out, if_neg (by decide)]; exact H.out⟩
        · have hw : IntKind.i64.wrap (z + n) = z + n := IntWalk.i64_in _ (by omega)
          have hzn : 12 < z + n := by omega
          go_wp2_with fail
          go_ret
          exact ⟨ret_i64 HE.out.symm, HB.out, by unfold wantC; rw [HE.out, if_neg (by decide)]; exact H.out⟩
      · rw [if_neg hbig] at he
        have HE := Lib.hid he
        have hsl : s < c.wants.length := by rw [HWL.out]; exact hs
        obtain ⟨g', hg', hlg, _, r0, f0⟩ := H.out.wnt.cell1 hsl
        have : gw = g' := by simpa using hg'
        subst this
        generalize c.wants[s] = y at r0
        have hn12 : ¬ 12 < n := by omega
        have hw : IntKind.i64.wrap (z + n) = z + n := IntWalk.i64_in _ (by omega)
        have hzn : ¬ 12 < z + n := by omega
        clear hz he hsu
        go_wp2_with fail
        refine region_plain 9 10 (fun w' => w' = V.drew) (by kernel_rfl) rfl ?_
        refine anyC_reads (by kernel_rfl) [0, 1, 2, 3, 4, 5, 6, 7, 8] ?opj ?ohj 1 _ _ _ (by kernel_rfl) ?okj
        case ohj => (simp only [List.filterMap_cons, List.filterMap_nil, List.getElem?_toArray, List.getElem?_cons_zero, List.getElem?_cons_succ]; try rfl)
        repeat (
          refine readC_step (v := ?_) rfl (fun w' hw' => ?_) ?_
          rotate_left
          focus (subst hw'; go_simp; try with_reducible rfl)
          go_simp)
        refine readC_nil ?_
        refine anyC_one (i := 9) (by kernel_rfl) rfl rfl (.inr rfl) ?_
        go_simp
        refine anyC_end (by kernel_rfl) (.inl rfl) ?_
        go_wp2_with fail
        go_ret
        refine ⟨ret_i64 HE.out.symm, (HB.out.drew).setCell (p := ⟨gw, s, none⟩) hlg _, ?_⟩
        unfold wantC
        rw [HE.out, if_pos rfl]
        exact H.out.drew.want hs
set_option maxRecDepth 100000 in
set_option maxHeartbeats 1000000 in
theorem cref_hold1 (A B : Option Addr) (W cA cB lo P m gw gt kc : Nat) (Ac : Option Addr) (rows : List (Sls Int)) (c : Cw) (s : Nat) (n : Int) (w : World) (h : CrefIn w lo P m gw gt Ac kc rows c) (hs : s < W) (hb : bitB c.inn s = true) :
    Calls Try.prog 83 #[.pointer (some ⟨P, 0, none⟩), .slice A W cA, .slice B m cB, .agg #[.int .i64 1, .int .i64 s, .int .i64 n]] w fun e w' => e = .returned (.int .i64 7) ∧ Below lo w w' ∧ CrefIn w' lo P m gw gt Ac kc rows c := by
  have hZ := Blk.new w 41 #[.int .i64 1, .int .i64 s, .int .i64 n]
  have h1 := h.alloc (.cells #[.int .i64 1, .int .i64 s, .int .i64 n] 41)
  have hloz : lo ≤ w.heap.size := by have := h.blk.lt; have := h.hlo; omega
  have hb1 := (Below.refl lo w).alloc hloz (.cells #[.int .i64 1, .int .i64 s, .int .i64 n] 41)
  have z0 := hZ.cell 0
  have z1 := hZ.cell 1
  have z2 := hZ.cell 2
  have c1 := h1.blk.cell 1
  have c2 := h1.blk.cell 2
  have c3 := h1.blk.cell 3
  obtain ⟨V, hV⟩ : ∃ V, V = w.alloc (.cells #[.int .i64 1, .int .i64 s, .int .i64 n] 41) := ⟨_, rfl⟩
  obtain ⟨Z, hZe⟩ : ∃ Z, Z = w.heap.size := ⟨_, rfl⟩
  rw [← hV] at h1 hb1 hZ
  rw [← hZe] at hZ
  have H := Lib.hid h1
  have HB := Lib.hid hb1
  have HV := Lib.hid hV
  have HZ := Lib.hid hZ
  have HZE := Lib.hid hZe
  clear h hZ h1 hb1 hV hZe
  have HIN := Lib.hid (Bit_any c.inn (s : Int) V.drew)
  rw [hb] at HIN
  rw [← HV.out, ← HZE.out] at z0 z1 z2
  rw [← HV.out] at c1 c2 c3
  clear hb
  go_enter Try.func83, Try.ntmps83
  go_wp2_with fail
  rw [← HV.out, ← HZE.out]
  refine region_plain 10 11 (fun w' => w' = V.drew) (by kernel_rfl) rfl ?_
  refine anyC_reads (by kernel_rfl) [0, 1, 2, 3, 4, 5, 7, 8, 9] ?opa ?oha 2 _ _ _ (by kernel_rfl) ?oka
  case oha => (simp only [List.filterMap_cons, List.filterMap_nil, List.getElem?_toArray, List.getElem?_cons_zero, List.getElem?_cons_succ]; try rfl)
  repeat (
    refine readC_step (v := ?_) rfl (fun w' hw' => ?_) ?_
    rotate_left
    focus (subst hw'; go_simp; try with_reducible rfl)
    go_simp)
  refine readC_nil ?_
  refine anyC_one (i := 6) (by kernel_rfl) rfl rfl (.inr rfl) ?_
  go_simp
  refine HIN.out.mono ?_
  rintro e w2 ⟨rfl, rfl⟩
  refine anyC_one (i := 10) (by kernel_rfl) rfl rfl (.inr rfl) ?_
  go_simp
  refine anyC_end (by kernel_rfl) (.inl rfl) ?_
  go_wp2_with fail
  go_ret
  exact ⟨ret_i64 rfl, HB.out.drew, H.out.drew⟩
set_option maxRecDepth 100000 in
set_option maxHeartbeats 1000000 in
theorem cref_hold2 (A B : Option Addr) (W cA cB lo P m gw gt kc : Nat) (Ac : Option Addr) (rows : List (Sls Int)) (c : Cw) (s : Nat) (n : Int) (w : World) (h : CrefIn w lo P m gw gt Ac kc rows c) (hs : s < W) (hb : bitB c.inn s = false) :
    Calls Try.prog 83 #[.pointer (some ⟨P, 0, none⟩), .slice A W cA, .slice B m cB, .agg #[.int .i64 2, .int .i64 s, .int .i64 n]] w fun e w' => e = .returned (.int .i64 7) ∧ Below lo w w' ∧ CrefIn w' lo P m gw gt Ac kc rows c := by
  have hZ := Blk.new w 41 #[.int .i64 2, .int .i64 s, .int .i64 n]
  have h1 := h.alloc (.cells #[.int .i64 2, .int .i64 s, .int .i64 n] 41)
  have hloz : lo ≤ w.heap.size := by have := h.blk.lt; have := h.hlo; omega
  have hb1 := (Below.refl lo w).alloc hloz (.cells #[.int .i64 2, .int .i64 s, .int .i64 n] 41)
  have z0 := hZ.cell 0
  have z1 := hZ.cell 1
  have z2 := hZ.cell 2
  have c1 := h1.blk.cell 1
  have c2 := h1.blk.cell 2
  have c3 := h1.blk.cell 3
  obtain ⟨V, hV⟩ : ∃ V, V = w.alloc (.cells #[.int .i64 2, .int .i64 s, .int .i64 n] 41) := ⟨_, rfl⟩
  obtain ⟨Z, hZe⟩ : ∃ Z, Z = w.heap.size := ⟨_, rfl⟩
  rw [← hV] at h1 hb1 hZ
  rw [← hZe] at hZ
  have H := Lib.hid h1
  have HB := Lib.hid hb1
  have HV := Lib.hid hV
  have HZ := Lib.hid hZ
  have HZE := Lib.hid hZe
  clear h hZ h1 hb1 hV hZe
  have HIN := Lib.hid (Bit_any c.inn (s : Int) V.drew)
  rw [hb] at HIN
  rw [← HV.out, ← HZE.out] at z0 z1 z2
  rw [← HV.out] at c1 c2 c3
  clear hb
  go_enter Try.func83, Try.ntmps83
  go_wp2_with fail
  rw [← HV.out, ← HZE.out]
  refine region_plain 10 11 (fun w' => w' = V.drew) (by kernel_rfl) rfl ?_
  refine anyC_reads (by kernel_rfl) [0, 1, 2, 3, 4, 5, 7, 8, 9] ?opa ?oha 2 _ _ _ (by kernel_rfl) ?oka
  case oha => (simp only [List.filterMap_cons, List.filterMap_nil, List.getElem?_toArray, List.getElem?_cons_zero, List.getElem?_cons_succ]; try rfl)
  repeat (
    refine readC_step (v := ?_) rfl (fun w' hw' => ?_) ?_
    rotate_left
    focus (subst hw'; go_simp; try with_reducible rfl)
    go_simp)
  refine readC_nil ?_
  refine anyC_one (i := 6) (by kernel_rfl) rfl rfl (.inr rfl) ?_
  go_simp
  refine HIN.out.mono ?_
  rintro e w2 ⟨rfl, rfl⟩
  refine anyC_one (i := 10) (by kernel_rfl) rfl rfl (.inr rfl) ?_
  go_simp
  refine anyC_end (by kernel_rfl) (.inl rfl) ?_
  go_wp2_with fail
  go_ret
  exact ⟨ret_i64 rfl, HB.out.drew, H.out.drew⟩
set_option maxRecDepth 100000 in
set_option maxHeartbeats 1000000 in
theorem cref_join (A B : Option Addr) (W cA cB lo P m gw gt kc : Nat) (Ac : Option Addr) (rows : List (Sls Int)) (c : Cw) (s : Nat) (n : Int) (w : World) (h : CrefIn w lo P m gw gt Ac kc rows c) (hs : s < W) (hW6 : W ≤ 6) (hb : bitB c.inn s = false) :
    Calls Try.prog 83 #[.pointer (some ⟨P, 0, none⟩), .slice A W cA, .slice B m cB, .agg #[.int .i64 1, .int .i64 s, .int .i64 n]] w fun e w' => e = .returned (.int .i64 0) ∧ Below lo w w' ∧ CrefIn w' lo P m gw gt Ac kc rows { c with inn := wOr c.inn (wShl w1 s) } := by
  rw [← add_or hb]
  have hZ := Blk.new w 41 #[.int .i64 1, .int .i64 s, .int .i64 n]
  have h1 := h.alloc (.cells #[.int .i64 1, .int .i64 s, .int .i64 n] 41)
  have hloz : lo ≤ w.heap.size := by have := h.blk.lt; have := h.hlo; omega
  have hb1 := (Below.refl lo w).alloc hloz (.cells #[.int .i64 1, .int .i64 s, .int .i64 n] 41)
  have z0 := hZ.cell 0
  have z1 := hZ.cell 1
  have z2 := hZ.cell 2
  have c1 := h1.blk.cell 1
  have c2 := h1.blk.cell 2
  have c3 := h1.blk.cell 3
  obtain ⟨V, hV⟩ : ∃ V, V = w.alloc (.cells #[.int .i64 1, .int .i64 s, .int .i64 n] 41) := ⟨_, rfl⟩
  obtain ⟨Z, hZe⟩ : ∃ Z, Z = w.heap.size := ⟨_, rfl⟩
  rw [← hV] at h1 hb1 hZ
  rw [← hZe] at hZ
  have H := Lib.hid h1
  have HB := Lib.hid hb1
  have HV := Lib.hid hV
  have HZ := Lib.hid hZ
  have HZE := Lib.hid hZe
  clear h hZ h1 hb1 hV hZe
  have HIN := Lib.hid (Bit_any c.inn (s : Int) V.drew)
  rw [hb] at HIN
  rw [← HV.out, ← HZE.out] at z0 z1 z2
  rw [← HV.out] at c1 c2 c3
  have hs0 : (0 : Int) ≤ (s : Int) := by omega
  have hu : IntKind.u64.wrap (s : Int) = (s : Int) := by unfold IntKind.wrap; simp [IntKind.bits]; omega
  clear hb
  go_enter Try.func83, Try.ntmps83
  go_wp2_with fail
  rw [← HV.out, ← HZE.out]
  refine region_plain 10 11 (fun w' => w' = V.drew) (by kernel_rfl) rfl ?_
  refine anyC_reads (by kernel_rfl) [0, 1, 2, 3, 4, 5, 7, 8, 9] ?opa ?oha 2 _ _ _ (by kernel_rfl) ?oka
  case oha => (simp only [List.filterMap_cons, List.filterMap_nil, List.getElem?_toArray, List.getElem?_cons_zero, List.getElem?_cons_succ]; try rfl)
  repeat (
    refine readC_step (v := ?_) rfl (fun w' hw' => ?_) ?_
    rotate_left
    focus (subst hw'; go_simp; try with_reducible rfl)
    go_simp)
  refine readC_nil ?_
  refine anyC_one (i := 6) (by kernel_rfl) rfl rfl (.inr rfl) ?_
  go_simp
  refine HIN.out.mono ?_
  rintro e w2 ⟨rfl, rfl⟩
  refine anyC_one (i := 10) (by kernel_rfl) rfl rfl (.inr rfl) ?_
  go_simp
  refine anyC_end (by kernel_rfl) (.inl rfl) ?_
  go_wp2_with fail
  have hf3 := H.out.blk.frozen 1
  refine region_plain 12 13 (fun w' => w' = V.drew.drew) (by kernel_rfl) rfl ?_
  refine anyC_reads (by kernel_rfl) [0, 1, 2, 3, 4, 5, 6, 7, 8, 9, 10, 11] ?opb ?ohb 1 _ _ _ (by kernel_rfl) ?okb
  case ohb => (simp only [List.filterMap_cons, List.filterMap_nil, List.getElem?_toArray, List.getElem?_cons_zero, List.getElem?_cons_succ]; try rfl)
  repeat (
    refine readC_step (v := ?_) rfl (fun w' hw' => ?_) ?_
    rotate_left
    focus (subst hw'; go_simp; try with_reducible rfl)
    go_simp)
  refine readC_nil ?_
  refine anyC_one (i := 12) (by kernel_rfl) rfl rfl (.inr rfl) ?_
  go_simp
  refine anyC_end (by kernel_rfl) (.inl rfl) ?_
  go_wp2_with fail
  go_ret
  have hlP := H.out.hlo
  exact ⟨ret_i64 rfl, (HB.out.drew.drew).setCell (p := ⟨P, 1, none⟩) hlP _, (H.out.drew.drew).join _⟩
end Go.Proofs.Ytdinknpagklkjaa
