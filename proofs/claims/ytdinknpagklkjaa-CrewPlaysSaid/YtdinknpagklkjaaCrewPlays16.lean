/- A worker leaves. Conditions: the crew lies in memory. -/
import Derived.Test.YtdinknpagklkjaaCrewPlays14
import Derived.Test.YtdinknpagklkjaaCrewPlays15
import Derived.Test.YtdinknpagklkjaaCrewPlays7
import Derived.Test.YtdinknpagklkjaaCrewPlays1
import Derived.Test.YtdinknpagklkjaaCrewPlays3
import Derived.Test.YtdinknpagklkjaaProg
import Derived.Test.YtdinknpagklkjaaCrewPlays8
import Derived.WalkSpells
namespace Go.Proofs.Ytdinknpagklkjaa
open Go.RowKit
attribute [local go_sem ↓] w_and w_or w_xor w_andNot w_and1 w_and255 w_xor1 w_or0 w_shl w_shl1 w_shr w_sub w_add w_sub1 w_add1
attribute [local go_sem] w_eq0 w_ne0 w_eq1 w_eq w_ne
attribute [local go_sem] Oper.semAt_some

theorem ent_leave1 : Ent Try.prog 119 := ent_of Try.func119 (by kernel_rfl) rfl
theorem crew_leave1 (j i : Int) (Z : Nat) (w : World) (hz : w.cell? ⟨Z, 0, none⟩ = some (.int .i64 i)) :
    Calls Try.prog 119 #[.int .i64 j, .pointer (some ⟨Z, 0, none⟩)] w fun e w' => e = .returned (.bool (j == i)) ∧ w' = w := by
  go_enter Try.func119, Try.ntmps119
  go_wp2_with fail
  go_ret
  exact ⟨ret_bool rfl, rfl⟩
/-- While one leaves: k rows done. -/
def LeaveI (lo P : Nat) (vw vs : Value) (m gw gt : Nat) (Ac : Option Addr) (kc : Nat) (rows : List (Sls Int)) (c : Cw) (i Z : Nat) (w : World) (s23 : Value) (wr : World) : Prop :=
  ∃ (k : Nat) (rows' : List (Sls Int)), k ≤ m ∧ s23 = .int .i64 k ∧ Below lo w wr ∧ CrewIn wr lo P vw vs m gw gt Ac kc rows' ⟨c.codes, wBut c.inn (wShl w1 i), c.wants, rows'.map (·.l)⟩ ∧ Blk wr Z 3 #[.int .i64 i] ∧ (∀ j, j < m → (rwAt rows' j).A = (rwAt rows j).A) ∧ (∀ j, j < k → (rwAt rows' j).l = (rwAt rows j).l.filter fun x => x != (i : Int)) ∧ ∀ j, k ≤ j → j < m → (rwAt rows' j).l = (rwAt rows j).l
theorem leaveI_end {m i : Nat} {rows rows' : List (Sls Int)} {t : List (List Int)} (h1 : rows.length = m) (h2 : rows'.length = m) (ht : rows.map (·.l) = t) (h : ∀ j, j < m → (rwAt rows' j).l = (rwAt rows j).l.filter fun x => x != (i : Int)) : rows'.map (·.l) = leftF t i := by
  subst ht
  unfold leftF
  apply List.ext_getElem
  · simp [h1, h2]
  · intro j hj1 hj2
    have hj : j < m := by simpa [h2] using hj1
    have := h j hj
    unfold rwAt at this
    rw [List.getD_eq_getElem?_getD, List.getElem?_eq_getElem (by omega), List.getD_eq_getElem?_getD, List.getElem?_eq_getElem (by omega)] at this
    simpa using this
set_option maxRecDepth 100000 in
set_option maxHeartbeats 1000000 in
theorem crew_leave (lo P m gw gt kc : Nat) (vw vs : Value) (Ac : Option Addr) (rows : List (Sls Int)) (c : Cw) (i : Nat) (w : World) (h : CrewIn w lo P vw vs m gw gt Ac kc rows c) (hm : m ≤ 12) (hlen : ∀ j, j < m → (rwAt rows j).l.length ≤ 65536) :
    Calls Try.prog 89 #[.pointer (some ⟨P, 0, none⟩), .int .i64 i] w fun e w' => (∃ v, e = .returned v) ∧ ∃ rows', CrewIn w' lo P vw vs m gw gt Ac kc rows' ⟨c.codes, wBut c.inn (wShl w1 i), c.wants, leftF c.tasks i⟩ ∧ Below lo w w' := by
  obtain ⟨Z, hZ⟩ : ∃ Z, Z = w.heap.size := ⟨_, rfl⟩
  have hz0 := Blk.new w 3 #[.int .i64 i]
  have hPZ : P < Z := by rw [hZ]; exact h.blk.lt
  have hloP := h.hlo
  have h1 := h.alloc (.cells #[.int .i64 i] 3)
  have hb1 := (Below.refl lo w).alloc (by omega) (.cells #[.int .i64 i] 3)
  have hlt : ∀ j, j < m → ∀ g, blkOf (rwAt rows j).A = some g → g < Z := fun j hj g hg => by rw [hZ]; exact ((h.row j hj).lt g hg).2
  obtain ⟨V, hV⟩ : ∃ V, V = w.alloc (.cells #[.int .i64 i] 3) := ⟨_, rfl⟩
  rw [← hV] at h1 hb1 hz0
  rw [← hZ] at hz0
  have c3 := h1.blk.cell 3
  have f3 := h1.blk.frozen 3
  have cz := hz0.cell 0
  have hk2 := h1.blk.put 3 (.int .u32 (wN (wBut c.inn (wShl w1 i))))
  have hfar : ∀ {α : Type} {B cc cap : Nat} {e : TypeId} {f : α → List Value} {A : Option Addr} {l : List α}, Own V B e cc f A cap l → e ≠ 92 → Own (V.setCell ⟨P, 3, none⟩ (.int .u32 (wN (wBut c.inn (wShl w1 i))))) B e cc f A cap l := fun ho he =>
    ho.far (p := ⟨P, 3, none⟩) (fun e => own_far_blk ho h1.blk he e) _
  have h2 : CrewIn (V.setCell ⟨P, 3, none⟩ (.int .u32 (wN (wBut c.inn (wShl w1 i))))) lo P vw vs m gw gt Ac kc rows ⟨c.codes, wBut c.inn (wShl w1 i), c.wants, rows.map (·.l)⟩ :=
    ⟨hk2, hfar h1.cod (by decide), hfar h1.wnt (by decide), hfar h1.tab (by decide), rfl, fun j hj => hfar (h1.row j hj) (by decide), h1.far, h1.nw, h1.hlo, h1.rl, h1.wl⟩
  have hz2 := hz0.far (p := ⟨P, 3, none⟩) (by show Z ≠ P; omega) (.int .u32 (wN (wBut c.inn (wShl w1 i))))
  have hb2 := hb1.setCell (p := ⟨P, 3, none⟩) hloP (.int .u32 (wN (wBut c.inn (wShl w1 i))))
  obtain ⟨V2, hV2⟩ : ∃ V2, V2 = V.setCell ⟨P, 3, none⟩ (.int .u32 (wN (wBut c.inn (wShl w1 i)))) := ⟨_, rfl⟩
  rw [← hV2] at h2 hz2 hb2
  have H2 := Lib.hid (h2.drew)
  have HZ2 := Lib.hid (hz2.drew)
  have HB2 := Lib.hid (hb2.drew)
  have d5 := H2.out.blk.cell 5
  have HLT := Lib.hid hlt
  have HLEN := Lib.hid hlen
  have HT := Lib.hid h.tsk
  have HRL := Lib.hid h.rl
  have HV := Lib.hid hV
  have HV2 := Lib.hid hV2
  have HZ := Lib.hid hZ
  have hi0 : (0 : Int) ≤ (i : Int) := by omega
  clear h h1 h2 hz0 hz2 hb1 hb2 hlt hlen hk2 hfar hV hV2 hZ
  go_enter Try.func89, Try.ntmps89
  go_wp2_with fail
  rw [← HV.out, ← HZ.out]
  refine region_plain 11 12 (fun w' => w' = V.drew) (by kernel_rfl) rfl ?_
  refine anyC_reads (by kernel_rfl) [0, 1, 2, 3, 4, 5, 6, 7, 8, 9, 10] ?opz ?ohz 1 _ _ _ (by kernel_rfl) ?okz
  case ohz => (simp only [List.filterMap_cons, List.filterMap_nil, List.getElem?_toArray, List.getElem?_cons_zero, List.getElem?_cons_succ]; try rfl)
  repeat (
    refine readC_step (v := ?_) rfl (fun w' hw' => ?_) ?_
    rotate_left
    focus (subst hw'; go_simp; try with_reducible rfl)
    go_simp)
  refine readC_nil ?_
  refine anyC_one (i := 11) (by kernel_rfl) rfl rfl (.inr rfl) ?_
  go_simp
  rw [← HV2.out]
  refine anyC_end (by kernel_rfl) (.inl rfl) ?_
  go_wp2_with fail
  go_loopw [23] (fun s23 wr => LeaveI lo P vw vs m gw gt Ac kc rows c i Z w s23 wr) (fun s23 _ => m - (intOf s23).toNat)
  case atStart => exact ⟨0, rows, Nat.zero_le _, rfl, HB2.out, H2.out, HZ2.out, fun j _ => rfl, fun j hj => by omega, fun j _ _ => rfl⟩
  case round =>
    clear HZ2 HB2 H2 d5 c3 f3 cz
    rename World => wr
    obtain ⟨k, rows', hk, rfl, hb, h, hz, hA, hdone, hleft⟩ := hrel
    by_cases hkm : k < m
    · have hkl : k < rows'.length := by rw [h.rl]; exact hkm
      obtain ⟨g', hg', hlg, _, r0, f0⟩ := h.tab.cell1 (f := fun s : Sls Int => s.val) hkl
      have : gt = g' := by simpa using hg'
      subst this
      rw [← getD_at rows' k hkl ⟨none, 0, []⟩] at r0
      have hat : rows'.getD k ⟨none, 0, []⟩ = rwAt rows' k := rfl
      rw [hat] at r0
      have hAk := hA k hkm
      have hlk := hleft k (Nat.le_refl _) hkm
      have hck := h.row k hkm
      have hnz : ∀ j, j < m → blkOf (rwAt rows' j).A ≠ some Z := fun j hj e => by
        rw [hA j hj] at e
        have := HLT.out j hj Z e
        omega
      have hl6 := HLEN.out k hkm
      rw [← hlk] at hl6
      have hnx : ∀ s : Sls Int, s.A = (rwAt rows' k).A → s.l = (rwAt rows' k).l.filter (fun x => !(x == (i : Int))) → (∀ j, j < m → (rwAt (rows'.set k s) j).A = (rwAt rows j).A) ∧ (∀ j, j < k + 1 → (rwAt (rows'.set k s) j).l = (rwAt rows j).l.filter fun x => x != (i : Int)) ∧ ∀ j, k + 1 ≤ j → j < m → (rwAt (rows'.set k s) j).l = (rwAt rows j).l := fun s hs1 hs2 => by
        have hat : ∀ j, rwAt (rows'.set k s) j = if k = j then s else rwAt rows' j := fun j => getD_set_any rows' k j s _ hkl
        refine ⟨fun j hj => ?_, fun j hj => ?_, fun j hj hjm => ?_⟩
        · rw [hat]
          split
          · rename_i e; rw [hs1, hAk, e]
          · exact hA j hj
        · rw [hat]
          split
          · rename_i e; rw [hs2, hlk, e]; rfl
          · exact hdone j (by omega)
        · rw [hat, if_neg (by omega)]
          exact hleft j (by omega) hjm
      have d5 := h.blk.cell 5
      obtain ⟨sk, hsk⟩ : ∃ sk, sk = rwAt rows' k := ⟨_, rfl⟩
      rw [← hsk] at r0 hck hl6 hnx
      have HDEL := Lib.hid (DeleteFunc_ints 119 ent_leave1 #[.pointer (some ⟨Z, 0, none⟩)] (fun x => x == (i : Int)) sk.A sk.l.length lo sk.c sk.l wr.drew rfl hl6 hck.drew (fun a wx hg =>
        crew_leave1 a i Z wx ((hg.cell (hz.drew.cell 0) (fun e => hnz k hkm (by rw [← hsk, ← e])))) ))
      have H := Lib.hid h
      have HZ' := Lib.hid hz
      have HB := Lib.hid hb
      have HNX := Lib.hid hnx
      have HSK := Lib.hid hsk
      have HNZ := Lib.hid hnz
      have HCK := Lib.hid hck
      have hkr : k < rows'.length := hkl
      have HRL' := Lib.hid h.rl
      clear h hz hb hnx hsk hnz hck hA hdone hleft hAk hlk hat hl6
      have hmm : k < m := hkm
      go_wp2_with fail
      refine region_plain 10 11 (fun w' => w'.cell? ⟨P, 5, none⟩ = some (.slice (some ⟨gt, 0, none⟩) m m)) (by kernel_rfl) rfl ?_
      refine anyC_reads (by kernel_rfl) [0, 1, 2, 3, 4, 5, 6, 7] ?opy ?ohy 3 _ _ _ (by kernel_rfl) ?oky
      case ohy => (simp only [List.filterMap_cons, List.filterMap_nil, List.getElem?_toArray, List.getElem?_cons_zero, List.getElem?_cons_succ]; try rfl)
      repeat (
        refine readC_step (v := ?_) rfl (fun w' hw' => ?_) ?_
        rotate_left
        focus (have p1 := hw'; go_simp; try with_reducible rfl)
        go_simp)
      refine readC_nil ?_
      refine anyC_one (i := 8) (by kernel_rfl) rfl rfl (.inr d5) ?_
      go_simp
      refine HDEL.out.mono ?_
      clear HDEL
      rintro e w2 ⟨rfl, ho2, hg2⟩
      have h2 := H.out.drew
      have hother : ∀ j, j < m → j ≠ k → Own w2 lo 3 1 icell (rwAt rows' j).A (rwAt rows' j).c (rwAt rows' j).l := fun j hj hne => by
        refine (h2.row j hj).kept hg2 ?_
        cases hA : blkOf (rwAt rows' j).A with
        | none => exact .inl rfl
        | some g =>
          refine .inr fun e => ?_
          rw [HSK.out] at e
          exact h2.far k j hmm hj (fun e => hne e.symm) g e.symm hA
      have hty : ∀ {α : Type} {B cc cap : Nat} {e : TypeId} {f : α → List Value} {A : Option Addr} {l : List α}, Own wr.drew B e cc f A cap l → e ≠ 3 → Own w2 B e cc f A cap l := fun ho he => by
        refine ho.kept hg2 ?_
        rename_i A _
        cases hA : blkOf A with
        | none => exact .inl rfl
        | some g =>
          refine .inr fun e => ?_
          obtain ⟨cur, hcur⟩ := own_cellsAt ho hA
          exact own_far_blk HCK.out.drew hcur (fun e => he e.symm) e.symm
      have hbk : Blk w2 P 92 _ := h2.blk.grown hg2 (fun e => own_far_blk HCK.out.drew h2.blk (by decide) e.symm)
      have hwn : Own w2 lo 3 1 icell (some ⟨gw, 0, none⟩) m c.wants := h2.wnt.kept hg2 (.inr fun e => h2.nw k hmm (by rw [← HSK.out]; exact e.symm))
      have hput := h2.put (s := ⟨sk.A, sk.c, sk.l.filter fun x => !(x == (i : Int))⟩) hmm hbk (hty h2.cod (by decide)) hwn (hty h2.tab (by decide)) hother ho2 (fun j hj hne g hg => h2.far k j hmm hj (fun e => hne e.symm) g (by rw [← HSK.out]; exact hg)) (by rw [HSK.out]; exact h2.nw k hmm)
      rw [← List.map_set] at hput
      have hz2 := (HZ'.out.drew.grown hg2 (fun e => HNZ.out k hmm (by rw [← HSK.out]; exact e.symm))).far (p := ⟨gt, k, none⟩) (fun e => own_far_blk h2.tab HZ'.out.drew (by decide) (by rw [e]; rfl)) (.slice sk.A (sk.l.filter fun x => !(x == (i : Int))).length sk.c)
      have hb2 := (HB.out.drew.grown hg2 (by have := h2.blk.lt; have := h2.hlo; omega) (fun g e => ((HCK.out.drew).lt g e).1)).setCell (p := ⟨gt, k, none⟩) hlg (.slice sk.A (sk.l.filter fun x => !(x == (i : Int))).length sk.c)
      have d5' := hbk.cell 5
      obtain ⟨gt', hgt', _, _, r2, f2⟩ := (hty h2.tab (by decide)).cell1 (f := fun s : Sls Int => s.val) hkr
      have : gt = gt' := by simpa using hgt'
      subst this
      have HPUT := Lib.hid hput
      have HZ3 := Lib.hid hz2
      have HB3 := Lib.hid hb2
      have HN3 := Lib.hid (HNX.out ⟨sk.A, sk.c, sk.l.filter fun x => !(x == (i : Int))⟩ (by rw [HSK.out]) (by rw [HSK.out]))
      clear h2 hother hty hbk hwn hput hz2 hb2 ho2 hg2
      refine anyC_one (i := 9) (by kernel_rfl) rfl rfl (.inr d5') ?_
      go_simp
      refine anyC_one (i := 10) (by kernel_rfl) rfl rfl (.inr d5') ?_
      go_simp
      refine anyC_end (by kernel_rfl) (.inl rfl) ?_
      go_wp2_with fail
      go_roundw
      case rel => exact ⟨k + 1, _, by omega, by go_num, HB3.out, HPUT.out, HZ3.out, HN3.out.1, HN3.out.2.1, HN3.out.2.2⟩
      case measure => simp [intOf]; omega
    · obtain rfl : k = m := by omega
      have he := leaveI_end HRL.out h.rl HT.out hdone
      rw [he] at h
      have H := Lib.hid h
      have HB := Lib.hid hb
      clear h hb hdone hleft hA he
      go_wp2_with fail
      go_end0
      exact ⟨⟨_, rfl⟩, rows', H.out, HB.out⟩
end Go.Proofs.Ytdinknpagklkjaa

/- The document's change: the leaving. Conditions: the crew lies in memory. -/
namespace Go.Proofs.Ytdinknpagklkjaa
open Go.RowKit
attribute [local go_sem ↓] w_and w_or w_xor w_andNot w_and1 w_and255 w_xor1 w_or0 w_shl w_shl1 w_shr w_sub w_add w_sub1 w_add1
attribute [local go_sem] w_eq0 w_ne0 w_eq1 w_eq w_ne
attribute [local go_sem] Oper.semAt_some

theorem CrefIn.map {w : World} {lo P m gw gt kc : Nat} {Ac : Option Addr} {rows : List (Sls Int)} {c : Cw} (h : CrefIn w lo P m gw gt Ac kc rows c) : CrefIn w lo P m gw gt Ac kc rows ⟨c.codes, c.inn, c.wants, rows.map (·.l)⟩ :=
  ⟨h.blk, h.cod, h.wnt, h.tab, rfl, h.row, h.far, h.nw, h.hlo, h.rl, h.wl⟩
theorem filter_take_in {l : List Int} {q : Nat} (p : Int → Bool) (hq : q < l.length) (h : p l[q] = true) : (l.take (q + 1)).filter p = (l.take q).filter p ++ [l[q]] := by
  rw [List.take_succ_eq_append_getElem hq, List.filter_append, List.filter_cons_of_pos h, List.filter_nil]
theorem filter_take_out {l : List Int} {q : Nat} (p : Int → Bool) (hq : q < l.length) (h : p l[q] = false) : (l.take (q + 1)).filter p = (l.take q).filter p := by
  rw [List.take_succ_eq_append_getElem hq, List.filter_append, List.filter_cons_of_neg (by simp [h]), List.filter_nil, List.append_nil]
/-- While one leaves: k rows done. -/
def LeaveJ (lo P : Nat) (m gw gt : Nat) (Ac : Option Addr) (kc : Nat) (rows : List (Sls Int)) (c : Cw) (i Z : Nat) (n : Int) (w : World) (s : Value) (wr : World) : Prop :=
  ∃ (k : Nat) (rows' : List (Sls Int)), k ≤ m ∧ s = .int .i64 k ∧ Below lo w wr ∧ CrefIn wr lo P m gw gt Ac kc rows' ⟨c.codes, wBut c.inn (wShl w1 i), c.wants, rows'.map (·.l)⟩ ∧ Blk wr Z 41 #[.int .i64 2, .int .i64 i, .int .i64 n] ∧ (∀ j, j < k → (rwAt rows' j).l = (rwAt rows j).l.filter fun x => x != (i : Int)) ∧ ∀ j, k ≤ j → j < m → (rwAt rows' j).l = (rwAt rows j).l
set_option maxRecDepth 100000 in
set_option maxHeartbeats 1000000 in
theorem cref_leave (A B : Option Addr) (W cA cB lo P m gw gt kc : Nat) (Ac : Option Addr) (rows : List (Sls Int)) (c : Cw) (s : Nat) (n : Int) (w : World) (h : CrefIn w lo P m gw gt Ac kc rows c) (hs : s < W) (hW6 : W ≤ 6) (hm : m ≤ 12) (hb : bitB c.inn s = true) (hlen : ∀ j, j < m → (rwAt rows j).l.length ≤ 65536) :
    Calls Try.prog 83 #[.pointer (some ⟨P, 0, none⟩), .slice A W cA, .slice B m cB, .agg #[.int .i64 2, .int .i64 s, .int .i64 n]] w fun e w' => e = .returned (.int .i64 0) ∧ Below lo w w' ∧ ∃ rows', CrefIn w' lo P m gw gt Ac kc rows' ⟨c.codes, wBut c.inn (wShl w1 s), c.wants, leftF c.tasks s⟩ := by
  have HSB := Lib.hid (sub_but hb)
  have HT := Lib.hid h.tsk
  have HRL := Lib.hid h.rl
  have HLEN := Lib.hid hlen
  have H0 := Lib.hid h
  have hZ := Blk.new w 41 #[.int .i64 2, .int .i64 s, .int .i64 n]
  have h1 := h.alloc (.cells #[.int .i64 2, .int .i64 s, .int .i64 n] 41)
  have hloz : lo ≤ w.heap.size := by have := h.blk.lt; have := h.hlo; omega
  have hb1 := (Below.refl lo w).alloc hloz (.cells #[.int .i64 2, .int .i64 s, .int .i64 n] 41)
  have z0 := hZ.cell 0
  have z1 := hZ.cell 1
  have z2 := hZ.cell 2
  have c1 := h1.blk.cell 1
  have c2 := h1.blk.cell 2
  have c3 := h1.blk.cell 3
  obtain ⟨V, hV⟩ : ∃ V, V = w.alloc (.cells #[.int .i64 2, .int .i64 s, .int .i64 n] 41) := ⟨_, rfl⟩
  obtain ⟨Z, hZe⟩ : ∃ Z, Z = w.heap.size := ⟨_, rfl⟩
  rw [← hV] at h1 hb1 hZ
  rw [← hZe] at hZ
  have H := Lib.hid h1
  have HB := Lib.hid hb1
  have HV := Lib.hid hV
  have HZ := Lib.hid hZ
  have HZE := Lib.hid hZe
  clear h hZ h1 hb1 hV hZe
  have HIN := Lib.hid (Bit_any c.inn (s : Int) V.drew)
  rw [hb] at HIN
  rw [← HV.out, ← HZE.out] at z0 z1 z2
  rw [← HV.out] at c1 c2 c3
  have hs0 : (0 : Int) ≤ (s : Int) := by omega
  have hu : IntKind.u64.wrap (s : Int) = (s : Int) := by unfold IntKind.wrap; simp [IntKind.bits]; omega
  have hPZ : P < Z := by
    have h1 := H0.out.blk.lt
    have h2 := HZE.out
    omega
  clear hb hlen
  go_enter Try.func83, Try.ntmps83
  go_wp2_with fail
  rw [← HV.out, ← HZE.out]
  refine region_plain 10 11 (fun w' => w' = V.drew) (by kernel_rfl) rfl ?_
  refine anyC_reads (by kernel_rfl) [0, 1, 2, 3, 4, 5, 7, 8, 9] ?opa ?oha 2 _ _ _ (by kernel_rfl) ?oka
  case oha => (simp only [List.filterMap_cons, List.filterMap_nil, List.getElem?_toArray, List.getElem?_cons_zero, List.getElem?_cons_succ]; try rfl)
  repeat (
    refine readC_step (v := ?_) rfl (fun w' hw' => ?_) ?_
    rotate_left
    focus (subst hw'; go_simp; try with_reducible rfl)
    go_simp)
  refine readC_nil ?_
  refine anyC_one (i := 6) (by kernel_rfl) rfl rfl (.inr rfl) ?_
  go_simp
  refine HIN.out.mono ?_
  rintro e w2 ⟨rfl, rfl⟩
  refine anyC_one (i := 10) (by kernel_rfl) rfl rfl (.inr rfl) ?_
  go_simp
  refine anyC_end (by kernel_rfl) (.inl rfl) ?_
  go_wp2_with fail
  have hf3 := H.out.blk.frozen 1
  refine region_plain 12 13 (fun w' => w' = V.drew.drew) (by kernel_rfl) rfl ?_
  refine anyC_reads (by kernel_rfl) [0, 1, 2, 3, 4, 5, 6, 7, 8, 9, 10, 11] ?opb ?ohb 1 _ _ _ (by kernel_rfl) ?okb
  case ohb => (simp only [List.filterMap_cons, List.filterMap_nil, List.getElem?_toArray, List.getElem?_cons_zero, List.getElem?_cons_succ]; try rfl)
  repeat (
    refine readC_step (v := ?_) rfl (fun w' hw' => ?_) ?_
    rotate_left
    focus (subst hw'; go_simp; try with_reducible rfl)
    go_simp)
  refine readC_nil ?_
  refine anyC_one (i := 12) (by kernel_rfl) rfl rfl (.inr rfl) ?_
  go_simp
  refine anyC_end (by kernel_rfl) (.inl rfl) ?_
  have hlP := H.out.hlo
  have hx := (((H.out.join (wSub c.inn (wShl w1 s))).drew).drew).map
  have hxb := ((HB.out.setCell (p := ⟨P, 1, none⟩) hlP (.int .u32 (wN (wSub c.inn (wShl w1 s))))).drew).drew
  have hxz := ((HZ.out.far (p := ⟨P, 1, none⟩) (by show Z ≠ P; omega) (.int .u32 (wN (wSub c.inn (wShl w1 s))))).drew).drew
  obtain ⟨X, hX⟩ : ∃ X, X = (V.setCell ⟨P, 1, none⟩ (.int .u32 (wN (wSub c.inn (wShl w1 s))))).drew.drew := ⟨_, rfl⟩
  rw [← hX] at hx hxb hxz ⊢
  rw [show (⟨({ c with inn := wSub c.inn (wShl w1 s) } : Cw).codes, ({ c with inn := wSub c.inn (wShl w1 s) } : Cw).inn, ({ c with inn := wSub c.inn (wShl w1 s) } : Cw).wants, rows.map (·.l)⟩ : Cw) = ⟨c.codes, wBut c.inn (wShl w1 s), c.wants, rows.map (·.l)⟩ from by rw [← HSB.out]] at hx
  have HX := Lib.hid hx
  have HXB := Lib.hid hxb
  have HXZ := Lib.hid hxz
  have d3 := hx.blk.cell 3
  clear hx hxb hxz hX c1 c2 c3 z0 z1 z2 hf3
  go_wp2_with fail
  go_loopw [253] (fun s253 wr => LeaveJ lo P m gw gt Ac kc rows c s Z n w s253 wr) (fun s253 _ => m - (intOf s253).toNat)
  case atStart => exact ⟨0, rows, Nat.zero_le _, rfl, HXB.out, HX.out, HXZ.out, fun j hj => by omega, fun j _ _ => rfl⟩
  case round =>
    clear HX HXB HXZ d3
    rename World => wr
    obtain ⟨k, rows', hk, rfl, hb, h, hz, hdone, hleft⟩ := hrel
    by_cases hkm : k < m
    · have hkl : k < rows'.length := by rw [h.rl]; exact hkm
      obtain ⟨g', hg', hlg, _, r0, f0⟩ := h.tab.cell1 (f := fun s : Sls Int => s.val) hkl
      have : gt = g' := by simpa using hg'
      subst this
      rw [← getD_at rows' k hkl ⟨none, 0, []⟩] at r0
      have hat : rows'.getD k ⟨none, 0, []⟩ = rwAt rows' k := rfl
      rw [hat] at r0
      have hlk := hleft k (Nat.le_refl _) hkm
      have hck := h.row k hkm
      have hl6 := HLEN.out k hkm
      rw [← hlk] at hl6
      obtain ⟨sk, hsk⟩ : ∃ sk, sk = rwAt rows' k := ⟨_, rfl⟩
      rw [← hsk] at r0 hck hl6 hlk
      have hnx : ∀ t : Sls Int, t.l = sk.l.filter (fun x => x != (s : Int)) → (∀ j, j < k + 1 → (rwAt (rows'.set k t) j).l = (rwAt rows j).l.filter fun x => x != (s : Int)) ∧ ∀ j, k + 1 ≤ j → j < m → (rwAt (rows'.set k t) j).l = (rwAt rows j).l := fun t ht => by
        have hat : ∀ j, rwAt (rows'.set k t) j = if k = j then t else rwAt rows' j := fun j => getD_set_any rows' k j t _ hkl
        refine ⟨fun j hj => ?_, fun j hj hjm => ?_⟩
        · rw [hat]
          split
          · rename_i e; rw [ht, hlk, e]
          · exact hdone j (by omega)
        · rw [hat, if_neg (by omega)]
          exact hleft j (by omega) hjm
      obtain ⟨L, hL⟩ : ∃ L, L = sk.l.length := ⟨_, rfl⟩
      obtain ⟨A0, hA0⟩ : ∃ A0, A0 = sk.A := ⟨_, rfl⟩
      have r1 : wr.cell? ⟨gt, k, none⟩ = some (.slice A0 L sk.c) := by rw [hL, hA0]; exact r0
      have HA0 := Lib.hid hA0
      rw [← hL] at hl6
      obtain ⟨Y, hY⟩ : ∃ Y, Y = wr.heap.size := ⟨_, rfl⟩
      have hloY : lo ≤ Y := by have := h.blk.lt; have := h.hlo; omega
      have d3 := h.blk.cell 3
      have HH := Lib.hid h
      have HZ' := Lib.hid hz
      have HB' := Lib.hid hb
      have HNX := Lib.hid hnx
      have HCK := Lib.hid hck
      have HL := Lib.hid hL
      have HY := Lib.hid hY
      have hgt0 := h.tab
      have HB0 : Hid (Below Y wr wr) := Lib.hid (Below.refl _ _)
      clear h hz hb hnx hsk hck hdone hleft hlk hat hL hY r0 hgt0 hA0
      go_wp2_with fail
      go_loopw [260, 25] (fun s260 s25 wq => ∃ (q : Nat) (A1 : Option Addr) (n1 cap1 : Nat), q ≤ L ∧ s260 = .int .i64 q ∧ s25 = .slice A1 n1 cap1 ∧ ((sk.l.take q).filter fun x => x != (s : Int)).length = n1 ∧ n1 ≤ q ∧ Below Y wr wq ∧ Own wq Y 3 1 icell A1 cap1 ((sk.l.take q).filter fun x => x != (s : Int))) (fun s260 _ _ => L - (intOf s260).toNat)
      case atStart => exact ⟨0, none, 0, 0, Nat.zero_le _, rfl, rfl, by simp, Nat.le_refl _, HB0.out, by rw [List.take_zero, List.filter_nil]; exact Own.nil _ _ _ (fun _ => rfl)⟩
      case round =>
        clear HB0 d3 r1
        rename World => wq
        obtain ⟨q, A1, n1, cap1, hq, rfl, rfl, hn1, hnq, hb, ho⟩ := hrel
        have hYq : Y ≤ wq.heap.size := by have := hb.size; rw [← HY.out] at this; exact this
        by_cases hqL : q < L
        · have hql : q < sk.l.length := by rw [← HL.out]; exact hqL
          obtain ⟨bs, os, hAB, hbs, t0⟩ := ((HCK.out.below hb (by rw [HY.out]; exact Nat.le_refl _)).els).at1 (f := fun x : Int => .int .i64 x) hql
          rw [← HA0.out] at hAB
          subst hAB
          have z1 := (HZ'.out.below hb (by have := HZ'.out.lt; rw [HY.out]; exact this)).cell 1
          by_cases he : sk.l[q] = (s : Int)
          · have hne : (sk.l[q] != (s : Int)) = false := by simp [he]
            have hft := filter_take_out (fun x => x != (s : Int)) hql hne
            have hown : Own wq Y 3 1 icell A1 cap1 ((sk.l.take (q + 1)).filter fun x => x != (s : Int)) := by rw [hft]; exact ho
            have hlen2 : ((sk.l.take (q + 1)).filter fun x => x != (s : Int)).length = n1 := by rw [hft]; exact hn1
            have HO2 := Lib.hid hown
            have HL2 := Lib.hid hlen2
            have HB2 := Lib.hid hb
            obtain ⟨y, hy⟩ : ∃ y, y = sk.l[q] := ⟨_, rfl⟩
            rw [← hy] at t0 hne
            clear hown hlen2 hft hb ho hn1 he hy
            go_wp2_with fail
            go_roundw
            case rel => exact ⟨q + 1, A1, n1, cap1, by omega, by go_num, rfl, HL2.out, by omega, HB2.out, HO2.out⟩
            case measure => simp [intOf]; omega
          · have hne : (sk.l[q] != (s : Int)) = true := by simp [he]
            have hft := filter_take_in (fun x => x != (s : Int)) hql hne
            have HFT := Lib.hid hft
            have HL2 := Lib.hid hn1
            have HB2 := Lib.hid hb
            have HO2 := Lib.hid ho
            obtain ⟨y, hy⟩ : ∃ y, y = sk.l[q] := ⟨_, rfl⟩
            rw [← hy] at t0 hne HFT
            clear hft hb ho hn1 he hy
            go_wp2_with (at_builtin; (
              refine wpList_push rfl _ _ _ rfl Y 1 3 (.int .i64 0) 8 Try.underlying27 (by kernel_rfl) rfl (by omega) icell wq #[.int .i64 y] A1 n1 cap1 _ HL2.out rfl HO2.out 1 [y] rfl rfl _ rfl rfl (by simp [Value.oneCell']) (by unfold maxLen; omega) (by omega) hYq ?_
              intro A9 cap9 w9 hown9 hgrow9 hloc9))
            have hb9 := (HB2.out.alloc hYq _).grown hgrow9 (by rw [size_alloc']; omega) (fun g hg => (HO2.out.lt g hg).1)
            rw [← HFT.out] at hown9
            have HB9 := Lib.hid hb9
            have HO9 := Lib.hid hown9
            have HL9 : Hid (((sk.l.take (q + 1)).filter fun x => x != (s : Int)).length = n1 + 1) := Lib.hid (by rw [HFT.out, List.length_append, HL2.out]; rfl)
            clear hb9 hown9 hgrow9 hloc9
            go_roundw
            case rel => exact ⟨q + 1, A9, n1 + 1, cap9, by omega, by go_num, rfl, HL9.out, by omega, HB9.out, HO9.out⟩
            case measure => simp [intOf]; omega
        · obtain rfl : q = L := by omega
          rw [List.take_of_length_le (by rw [← HL.out]; exact Nat.le_refl _)] at ho hn1
          have h2 := HH.out.below hb (by rw [HY.out]; exact Nat.le_refl _)
          have d3 := h2.blk.cell 3
          obtain ⟨gt', hgt', hlg2, _, r2, f2⟩ := h2.tab.cell1 (f := fun s : Sls Int => s.val) hkl
          have : gt = gt' := by simpa using hgt'
          subst this
          have hlt : ∀ j, j < m → ∀ g, blkOf (rwAt rows' j).A = some g → g < Y := fun j hj g hg => by rw [HY.out]; exact ((HH.out.row j hj).lt g hg).2
          have hgwY : gw < Y := by rw [HY.out]; exact (HH.out.wnt.lt gw rfl).2
          have hput := h2.put (s := ⟨A1, cap1, sk.l.filter fun x => x != (s : Int)⟩) hkm h2.blk h2.cod h2.wnt h2.tab (fun j hj _ => h2.row j hj) (ho.weaken hloY) (fun j hj _ g hg e => by
            have h1 := (ho.lt g hg).1
            have h2 := hlt j hj g e
            omega) (fun e => by
            have h1 := (ho.lt gw e).1
            omega)
          rw [← List.map_set] at hput
          have hz2 := (HZ'.out.below hb (by have := HZ'.out.lt; rw [HY.out]; exact this)).far (p := ⟨gt, k, none⟩) (fun e => own_far_blk h2.tab (HZ'.out.below hb (by have := HZ'.out.lt; rw [HY.out]; exact this)) (by decide) (by rw [e]; rfl)) (.slice A1 n1 cap1)
          have hb2 := (HB'.out.trans (hb.mono hloY)).setCell (p := ⟨gt, k, none⟩) hlg (.slice A1 n1 cap1)
          have hn3 := HNX.out ⟨A1, cap1, sk.l.filter fun x => x != (s : Int)⟩ rfl
          have hsv : (⟨A1, cap1, sk.l.filter fun x => x != (s : Int)⟩ : Sls Int).val = .slice A1 n1 cap1 := by rw [← hn1]
          rw [hsv] at hput
          have HPUT := Lib.hid hput
          have HZ3 := Lib.hid hz2
          have HB3 := Lib.hid hb2
          have HN3 := Lib.hid hn3
          clear h2 hput hz2 hb2 hn3 hlt hsv ho hb hn1
          go_wp2_with fail
          go_roundw
          case rel => exact ⟨k + 1, _, by omega, by go_num, HB3.out, HPUT.out, HZ3.out, HN3.out.1, HN3.out.2⟩
          case measure => simp [intOf]; omega
    · obtain rfl : k = m := by omega
      have he := leaveI_end HRL.out h.rl HT.out hdone
      rw [he] at h
      have H' := Lib.hid h
      have HB' := Lib.hid hb
      clear h hb hdone hleft he
      go_wp2_with fail
      go_ret
      exact ⟨ret_i64 rfl, HB'.out, rows', H'.out⟩
end Go.Proofs.Ytdinknpagklkjaa

/- A row of numbers in memory, wherever in its block it begins. Conditions: none. -/
namespace Go.Proofs.Ytdinknpagklkjaa
open Go.RowKit

/-- A row of numbers that lies in a block of numbers. -/
def RowI (w : World) (s : Sls Int) : Prop := s.l = [] ∨ ∃ (g off : Nat) (cur : Array Value), s.A = some ⟨g, off, none⟩ ∧ Blk w g 3 cur ∧ ∀ j, (h : j < s.l.length) → cur[off + j]? = some (.int .i64 s.l[j])
theorem RowI.els {w : World} {s : Sls Int} (h : RowI w s) : Els w w.heap.size 1 icell s.A s.l := by
  intro hne
  rcases h with h | ⟨g, off, cur, hA, hb, hc⟩
  · rw [h] at hne
    simp at hne
  · refine ⟨g, off, hA, hb.lt, fun i a ha j u hu => ?_⟩
    have hi : i < s.l.length := (List.getElem?_eq_some_iff.1 ha).1
    have e : s.l[i] = a := (List.getElem?_eq_some_iff.1 ha).2
    cases j with
    | zero =>
      have hu' : u = .int .i64 a := by simpa [icell] using hu.symm
      rw [hu', ← e, Nat.mul_one, Nat.add_zero, hb.cell]
      exact hc i hi
    | succ j => simp [icell] at hu
theorem RowI.below {w w' : World} {B : Nat} {s : Sls Int} (h : RowI w s) (hb : Below B w w') (hB : w.heap.size ≤ B) : RowI w' s := by
  rcases h with h | ⟨g, off, cur, hA, hk, hc⟩
  · exact .inl h
  · exact .inr ⟨g, off, cur, hA, hk.below hb (by have := hk.lt; omega), hc⟩
theorem RowI.alloc {w : World} {s : Sls Int} (h : RowI w s) (o : Obj) : RowI (w.alloc o) s := h.below ((Below.refl _ w).alloc (Nat.le_refl _) o) (Nat.le_refl _)
theorem RowI.drew {w : World} {s : Sls Int} (h : RowI w s) : RowI w.drew s := h
/-- Another list, in blocks of another type, is appended to. -/
theorem RowI.grown {α : Type} {w w' : World} {s : Sls Int} {lo c cap : Nat} {e : TypeId} {f : α → List Value} {A : Option Addr} {l : List α} (h : RowI w s) (hg : w.grownBy w' (blkOf A)) (ho : Own w lo e c f A cap l) (he : e ≠ 3) : RowI w' s := by
  rcases h with h | ⟨g, off, cur, hA, hk, hc⟩
  · exact .inl h
  · refine .inr ⟨g, off, cur, hA, hk.grown hg (fun hgA => ?_), hc⟩
    rcases ho.2.2 with hn | ⟨g', cp, cur', hv, hb', hg', r⟩
    · have hAn : A = none := by
        have := hn.1
        simp only [Value.slice.injEq] at this
        exact this.1
      rw [hAn] at hgA
      cases hgA
    · have hA' : A = some ⟨g', 0, none⟩ := by
        simp only [Value.slice.injEq] at hv
        exact hv.1
      rw [hA'] at hgA
      have : g = g' := by simpa [blkOf] using hgA
      subst this
      have h2 : Blk w g e cur' := hg'
      exact h2.differ hk he rfl
theorem RowI.of_own {w : World} {lo cap : Nat} {A : Option Addr} {l : List Int} (h : Own w lo 3 1 icell A cap l) : RowI w ⟨A, cap, l⟩ := by
  by_cases hl : l = []
  · exact .inl hl
  · have hpos : 0 < l.length := by
      cases l with
      | nil => exact absurd rfl hl
      | cons x l => simp
    have he := h.els
    rcases h.2.2 with hn | ⟨g', cp, cur', hv, hb', hg', r⟩
    · have := hn.2
      omega
    · have hA' : A = some ⟨g', 0, none⟩ := by
        simp only [Value.slice.injEq] at hv
        exact hv.1
      refine .inr ⟨g', 0, cur', hA', hg', fun j hj => ?_⟩
      obtain ⟨b, off, e, _, f0⟩ := Els.at1 (f := fun x : Int => .int .i64 x) he hj
      rw [hA'] at e
      simp only [Option.some.injEq, Addr.mk.injEq] at e
      obtain ⟨rfl, rfl, _⟩ := e
      have hk : Blk w g' 3 cur' := hg'
      rw [hk.cell] at f0
      exact f0
end Go.Proofs.Ytdinknpagklkjaa

/- What the tick's loops keep, in plain Lean; a cell of a struct in a row is put. Conditions: none. -/
namespace Go.Proofs.Ytdinknpagklkjaa
open Go.RowKit

def offN (wants : List Int) (k : Nat) : Nat := ((wants.take k).map Int.toNat).sum
theorem offN_succ {wants : List Int} {k : Nat} (hk : k < wants.length) : offN wants (k + 1) = offN wants k + (wants.getD k 0).toNat := by
  unfold offN
  rw [List.take_succ_eq_append_getElem hk, List.map_append, List.sum_append, ← getD_at wants k hk 0]
  simp
theorem cast_sum : ∀ l : List Int, (∀ n ∈ l, 0 ≤ n) → (((l.map Int.toNat).sum : Nat) : Int) = l.sum
  | [], _ => rfl
  | a :: l, h => by
    have ih := cast_sum l fun n hn => h n (List.mem_cons_of_mem _ hn)
    have := h a List.mem_cons_self
    rw [List.map_cons, List.sum_cons, List.sum_cons]
    omega
theorem offN_le {wants : List Int} (h : ∀ n ∈ wants, 0 ≤ n) (k : Nat) : (offN wants k : Int) ≤ wants.sum := by
  have h1 := cast_sum (wants.take k) fun n hn => h n (List.mem_of_mem_take hn)
  have h2 := cast_sum (wants.drop k) fun n hn => h n (List.mem_of_mem_drop hn)
  have h3 : wants.sum = (wants.take k).sum + (wants.drop k).sum := by rw [← List.sum_append, List.take_append_drop]
  unfold offN
  omega
theorem offN_mono {wants : List Int} {k : Nat} (hk : k < wants.length) : offN wants k + (wants.getD k 0).toNat ≤ offN wants wants.length := by
  have h1 : wants.map Int.toNat = (wants.take (k + 1)).map Int.toNat ++ (wants.drop (k + 1)).map Int.toNat := by rw [← List.map_append, List.take_append_drop]
  have h2 := congrArg List.sum h1
  rw [List.sum_append] at h2
  have h3 := offN_succ hk
  unfold offN at h3 ⊢
  rw [List.take_length]
  omega
theorem tasksF_succ : ∀ (wants : List Int) (svs : List (BitVec 32)) (k : Nat), k < wants.length → k < svs.length → tasksF (wants.take (k + 1)) (svs.take (k + 1)) = tasksF (wants.take k) (svs.take k) ++ List.replicate (wants.getD k 0).toNat (lw svs k)
  | n :: ns, t :: ts, 0, _, _ => by simp [tasksF, lw]
  | n :: ns, t :: ts, k + 1, h1, h2 => by
    have ih := tasksF_succ ns ts k (by simpa using h1) (by simpa using h2)
    rw [List.take_succ_cons, List.take_succ_cons, tasksF, ih, List.take_succ_cons, List.take_succ_cons, tasksF, List.append_assoc]
    rfl
  | [], _, k, h, _ => by cases h
  | _ :: _, [], k, _, h => by cases h
theorem tasksF_length (wants : List Int) (svs : List (BitVec 32)) (hl : wants.length = svs.length) : ∀ k, k ≤ wants.length → (tasksF (wants.take k) (svs.take k)).length = offN wants k
  | 0, _ => by simp [tasksF, offN]
  | k + 1, h => by
    rw [tasksF_succ wants svs k (by omega) (by omega), List.length_append, tasksF_length wants svs hl k (by omega), offN_succ (by omega), List.length_replicate]
theorem cutF_at : ∀ (wants l : List Int) (j : Nat), j < wants.length → (cutF wants l).getD j [] = ((l.drop (offN wants j)).take (wants.getD j 0).toNat).filter (fun x => decide (0 ≤ x))
  | [], l, j, h => by cases h
  | n :: ns, l, 0, _ => by simp [cutF, offN]
  | n :: ns, l, j + 1, h => by
    have ih := cutF_at ns (l.drop n.toNat) j (by simpa using h)
    rw [cutF, List.getD_cons_succ, ih, List.drop_drop, List.getD_cons_succ]
    unfold offN
    rw [List.take_succ_cons, List.map_cons, List.sum_cons]
def nowTo (inn : BitVec 32) (ws : List Wk) (i : Nat) : List Wk := (List.range ws.length).map fun q => if q < i then nowAt inn ws q else wk ws q
theorem nowTo_length (inn : BitVec 32) (ws : List Wk) (i : Nat) : (nowTo inn ws i).length = ws.length := by simp [nowTo]
theorem nowTo_zero (inn : BitVec 32) (ws : List Wk) : nowTo inn ws 0 = ws := by
  apply List.ext_getElem
  · simp [nowTo]
  · intro j h1 h2
    simp only [nowTo, List.getElem_map, List.getElem_range]
    rw [if_neg (by omega)]
    exact getD_at ws j h2 _
theorem nowTo_all (inn : BitVec 32) (ws : List Wk) : nowTo inn ws ws.length = nowF ws inn := by
  unfold nowTo nowF
  apply List.map_congr_left
  intro q hq
  rw [if_pos (List.mem_range.1 hq)]
theorem nowTo_in {inn : BitVec 32} {ws : List Wk} {i : Nat} (h : bitB inn i = true) : nowTo inn ws (i + 1) = nowTo inn ws i := by
  unfold nowTo
  apply List.map_congr_left
  intro q hq
  by_cases h1 : q = i
  · subst h1
    rw [if_pos (by omega), if_neg (by omega)]
    unfold nowAt
    rw [if_pos h]
  · by_cases h2 : q < i
    · rw [if_pos (by omega), if_pos h2]
    · rw [if_neg (by omega), if_neg h2]
theorem nowTo_out {inn : BitVec 32} {ws : List Wk} {i : Nat} (h : bitB inn i = false) : nowTo inn ws (i + 1) = (nowTo inn ws i).set i (0, (wk ws i).2) := by
  apply List.ext_getElem
  · simp [nowTo]
  · intro j h1 h2
    rw [List.getElem_set]
    simp only [nowTo, List.getElem_map, List.getElem_range]
    by_cases hj : i = j
    · subst hj
      rw [if_pos rfl, if_pos (by omega)]
      unfold nowAt
      rw [h]
      rfl
    · rw [if_neg hj]
      by_cases h2 : j < i
      · rw [if_pos (by omega), if_pos h2]
      · rw [if_neg (by omega), if_neg h2]
theorem nowTo_at {inn : BitVec 32} {ws : List Wk} {i : Nat} (hi : i < (nowTo inn ws i).length) : (nowTo inn ws i)[i] = wk ws i := by
  simp only [nowTo, List.getElem_map, List.getElem_range]
  rw [if_neg (by omega)]
theorem now_good {ws : List Wk} {inn : BitVec 32} (h : ∀ k ∈ ws, 0 ≤ k.1 ∧ k.1 ≤ 12) (hW : ws.length ≤ 6) {M : Nat} (hM : M ≤ 12) : placeCheck (nowF ws inn) M = 0 := by
  unfold placeCheck
  rw [nowF_length, if_neg (by omega)]
  have : (nowF ws inn).any badRoom = false := by
    rw [List.any_eq_false]
    intro x hx
    unfold nowF at hx
    obtain ⟨q, hq, rfl⟩ := List.mem_map.1 hx
    have hq := List.mem_range.1 hq
    have hw : wk ws q ∈ ws := by
      unfold wk
      rw [getD_at ws q hq]
      exact List.getElem_mem hq
    have := h _ hw
    unfold nowAt badRoom
    generalize wk ws q = y at this ⊢
    split <;> simp <;> omega
  rw [this]
  rfl
theorem RowI.cut {w : World} {A : Option Addr} {n cap : Nat} {l : List Int} (h : RowI w ⟨A, cap, l⟩) (k cap' : Nat) (hk : k ≤ n) (hn : l.length = n) (hc : n ≤ cap) : RowI w ⟨if cap = k then A else A.map (·.add (k * 1)), cap', l.drop k⟩ := by
  by_cases he : l.drop k = []
  · exact .inl he
  · have hlt : k < l.length := by
      rcases Nat.lt_or_ge k l.length with h | h
      · exact h
      · exact absurd (List.drop_of_length_le h) he
    rcases h with h | ⟨g, off, cur, hA, hb, hcur⟩
    · simp only at h
      rw [h] at hlt
      simp at hlt
    · simp only at hA hcur
      subst hA
      rw [if_neg (by omega)]
      refine .inr ⟨g, off + k, cur, ?_, hb, fun j hj => ?_⟩
      · show some (Addr.add ⟨g, off, none⟩ (k * 1)) = _
        rw [addr_add, Nat.mul_one]
      · simp only [List.length_drop] at hj
        have := hcur (k + j) (by omega)
        rw [show off + k + j = off + (k + j) by omega, this]
        simp
theorem flat_len {α : Type} {f : α → List Value} {c : Nat} (hf : ∀ a, (f a).length = c) : ∀ l : List α, (l.flatMap f).length = l.length * c
  | [] => by simp
  | y :: ys => by rw [List.flatMap_cons, List.length_append, flat_len hf ys, hf, List.length_cons, Nat.add_mul]; omega
theorem flat_set {α : Type} {f : α → List Value} {c : Nat} (hf : ∀ a, (f a).length = c) : ∀ (l : List α) (k j : Nat) (x : α) (u : Value) (hk : k < l.length), j < c → f x = (f l[k]).set j u → (l.set k x).flatMap f = (l.flatMap f).set (k * c + j) u
  | [], _, _, _, _, hk, _, _ => by cases hk
  | y :: ys, 0, j, x, u, _, hj, hx => by
    rw [List.set_cons_zero, List.flatMap_cons, List.flatMap_cons, Nat.zero_mul, Nat.zero_add, List.set_append_left _ _ (by rw [hf]; exact hj)]
    simp only [List.getElem_cons_zero] at hx
    rw [hx]
  | y :: ys, k + 1, j, x, u, hk, hj, hx => by
    have ih := flat_set hf ys k j x u (by simpa using hk) hj (by simpa using hx)
    rw [List.set_cons_succ, List.flatMap_cons, List.flatMap_cons, ih, List.set_append_right _ _ (by rw [hf, Nat.add_mul]; omega), hf]
    congr 2
    rw [Nat.add_mul]; omega
theorem Own.putc {α : Type} {w : World} {B c cap g : Nat} {e : TypeId} {f : α → List Value} {l : List α} (h : Own w B e c f (some ⟨g, 0, none⟩) cap l) {k j : Nat} {x : α} {u : Value} (hk : k < l.length) (hj : j < c) (hx : f x = (f l[k]).set j u) : Own (w.setCell ⟨g, k * c + j, none⟩ u) B e c f (some ⟨g, 0, none⟩) cap (l.set k x) := by
  have := (h.2.stored (k * c + j) u).1
  rw [← flat_set h.1 l k j x u hk hj hx] at this
  refine ⟨h.1, ?_⟩
  rw [List.length_set]
  exact this
end Go.Proofs.Ytdinknpagklkjaa

/- slices.Clone at slices of numbers. Conditions: the slice reads as a list. -/
namespace Go.Proofs.Ytdinknpagklkjaa
open Go.RowKit

set_option maxRecDepth 100000 in
theorem Clone_ints (A : Option Addr) (n c : Nat) (l : List Int) (w : World) (hl : l.length = n) (hn : n ≤ 65536) (hr : Els w w.heap.size 1 icell A l) :
    Calls Try.prog 117 #[.slice A n c] w fun e w' => ∃ A' cap, e = .returned (.slice A' n cap) ∧ Below w.heap.size w w' ∧ Own w' w.heap.size 3 1 icell A' cap l := by
  have HL := Lib.hid hl
  have HR := Lib.hid hr
  clear hl hr
  cases A with
  | none =>
    have h0 : n = 0 := by
      by_cases h : 0 < l.length
      · obtain ⟨b, off, he, _⟩ := HR.out h
        cases he
      · have := HL.out; omega
    subst h0
    have hnil : l = [] := List.length_eq_zero_iff.1 HL.out
    subst hnil
    clear HR HL
    have hq : ∀ W : World, (binOp .eql 27 (.slice none 0 c) (.slice none 0 0)).run Try.prog W = .ok (.bool true) W := fun W => Lib.run_eql_slice_nil W 27 3 none 0 c 0 0 Try.underlying27
    go_enter Try.func117, Try.ntmps117
    go_wp2_with fail
    go_ret
    exact ⟨none, 0, rfl, Below.refl _ _, Own.nil _ _ _ (fun _ => rfl)⟩
  | some p =>
    have HO2 := Lib.hid (Own.empty w 3 1 icell (fun _ => rfl))
    have hb0 := (Below.refl w.heap.size w).alloc (Nat.le_refl _) (.cells #[] 3)
    have HB0 := Lib.hid hb0
    have HE2 := Lib.hid (HR.out.below hb0)
    clear hb0
    have hq : ∀ W : World, (binOp .eql 27 (.slice (some p) n c) (.slice none 0 0)).run Try.prog W = .ok (.bool false) W := fun W => Lib.run_eql_slice_nil W 27 3 (some p) n c 0 0 Try.underlying27
    go_enter Try.func117, Try.ntmps117
    go_wp2_with (at_builtin; go_loud (refine wpList_append_els rfl _ _ _ rfl w.heap.size 1 3 (.int .i64 0) 8 Try.underlying27 (by kernel_rfl) rfl (by omega) icell _ (some ⟨w.heap.size, 0, none⟩) 0 0 [] rfl rfl HO2.out _ _ _ l HL.out rfl _ HE2.out (one_flat (fun a u hu => by simp at hu; rw [hu]; rfl) _) (by unfold maxLen; omega) (by omega) (by rw [size_alloc']; exact Nat.le_succ _) ?_; intro A2 cap2 w3 hown2 hgrow2 hloc2))
    rw [List.nil_append] at hown2
    have HO := Lib.hid hown2
    have HB := Lib.hid (HB0.out.grown hgrow2 (by rw [size_alloc']; omega) (fun g hg => by simp [blkOf] at hg; omega))
    clear hown2 hgrow2 hloc2
    go_ret
    exact ⟨A2, cap2, rfl, HB.out, HO.out⟩
end Go.Proofs.Ytdinknpagklkjaa
