/- A worker leaves. Conditions: the crew lies in memory. -/
import Derived.Test.YtdinknpagklkjaaTopLeft14
import Derived.Test.YtdinknpagklkjaaTopLeft15
namespace Go.Proofs.Ytdinknpagklkjaa
open Go.RowKit
attribute [local go_sem ↓] w_and w_or w_xor w_andNot w_and1 w_and255 w_xor1 w_or0 w_shl w_shl1 w_shr w_sub w_add w_sub1 w_add1
attribute [local go_sem] w_eq0 w_ne0 w_eq1 w_eq w_ne
attribute [local go_sem] Oper.semAt_some

theorem ent_leave1 : Ent Try.prog 119 := ent_of Try.func119 (by kernel_rfl) rfl
theorem crew_leave1 (j i : Int) (Z : Nat) (w : World) (hz : w.cell? ⟨Z, 0, none⟩ = some (.int .i64 i)) :
    Calls Try.prog 119 #[.int .i64 j, .pointer (some ⟨Z, 0, none⟩)] w fun e w' => e = .returned (.bool (j == i)) ∧ w' = w := by
  go_enter Try.func119, Try.ntmps119
  go_wp2_with fail
  go_ret
  exact ⟨ret_bool rfl, rfl⟩
/-- While one leaves: k rows done. -/
def LeaveI (lo P : Nat) (vw vs : Value) (m gw gt : Nat) (Ac : Option Addr) (kc : Nat) (rows : List (Sls Int)) (c : Cw) (i Z : Nat) (w : World) (s23 : Value) (wr : World) : Prop :=
  ∃ (k : Nat) (rows' : List (Sls Int)), k ≤ m ∧ s23 = .int .i64 k ∧ Below lo w wr ∧ CrewIn wr lo P vw vs m gw gt Ac kc rows' ⟨c.codes, wBut c.inn (wShl w1 i), c.wants, rows'.map (·.l)⟩ ∧ Blk wr Z 3 #[.int .i64 i] ∧ (∀ j, j < m → (rwAt rows' j).A = (rwAt rows j).A) ∧ (∀ j, j < k → (rwAt rows' j).l = (rwAt rows j).l.filter fun x => x != (i : Int)) ∧ ∀ j, k ≤ j → j < m → (rwAt rows' j).l = (rwAt rows j).l
theorem leaveI_end {m i : Nat} {rows rows' : List (Sls Int)} {t : List (List Int)} (h1 : rows.length = m) (h2 : rows'.length = m) (ht : rows.map (·.l) = t) (h : ∀ j, j < m → (rwAt rows' j).l = (rwAt rows j).l.filter fun x => x != (i : Int)) : rows'.map (·.l) = leftF t i := by
  subst ht
  unfold leftF
  apply List.ext_getElem
  · simp [h1, h2]
  · intro j hj1 hj2
    have hj : j < m := by simpa [h2] using hj1
    have := h j hj
    unfold rwAt at this
    rw [List.getD_eq_getElem?_getD, List.getElem?_eq_getElem (by omega), List.getD_eq_getElem?_getD, List.getElem?_eq_getElem (by omega)] at this
    simpa using this
set_option maxRecDepth 100000 in
set_option maxHeartbeats 1000000 in
theorem crew_leave (lo P m gw gt kc : Nat) (vw vs : Value) (Ac : Option Addr) (rows : List (Sls Int)) (c : Cw) (i : Nat) (w : World) (h : CrewIn w lo P vw vs m gw gt Ac kc rows c) (hm : m ≤ 12) (hlen : ∀ j, j < m → (rwAt rows j).l.length ≤ 65536) :
    Calls Try.prog 89 #[.pointer (some ⟨P, 0, none⟩), .int .i64 i] w fun e w' => (∃ v, e = .returned v) ∧ ∃ rows', CrewIn w' lo P vw vs m gw gt Ac kc rows' ⟨c.codes, wBut c.inn (wShl w1 i), c.wants, leftF c.tasks i⟩ ∧ Below lo w w' := by
  obtain ⟨Z, hZ⟩ : ∃ Z, Z = w.heap.size := ⟨_, rfl⟩
  have hz0 := Blk.new w 3 #[.int .i64 i]
  have hPZ : P < Z := by rw [hZ]; exact h.blk.lt
  have hloP := h.hlo
  have h1 := h.alloc (.cells #[.int .i64 i] 3)
  have hb1 := (Below.refl lo w).alloc (by omega) (.cells #[.int .i64 i] 3)
  have hlt : ∀ j, j < m → ∀ g, blkOf (rwAt rows j).A = some g → g < Z := fun j hj g hg => by rw [hZ]; exact ((h.row j hj).lt g hg).2
  obtain ⟨V, hV⟩ : ∃ V, V = w.alloc (.cells #[.int .i64 i] 3) := ⟨_, rfl⟩
  rw [← hV] at h1 hb1 hz0
  rw [← hZ] at hz0
  have c3 := h1.blk.cell 3
  have f3 := h1.blk.frozen 3
  have cz := hz0.cell 0
  have hk2 := h1.blk.put 3 (.int .u32 (wN (wBut c.inn (wShl w1 i))))
  have hfar : ∀ {α : Type} {B cc cap : Nat} {e : TypeId} {f : α → List Value} {A : Option Addr} {l : List α}, Own V B e cc f A cap l → e ≠ 92 → Own (V.setCell ⟨P, 3, none⟩ (.int .u32 (wN (wBut c.inn (wShl w1 i))))) B e cc f A cap l := fun ho he =>
    ho.far (p := ⟨P, 3, none⟩) (fun e => own_far_blk ho h1.blk he e) _
  have h2 : CrewIn (V.setCell ⟨P, 3, none⟩ (.int .u32 (wN (wBut c.inn (wShl w1 i))))) lo P vw vs m gw gt Ac kc rows ⟨c.codes, wBut c.inn (wShl w1 i), c.wants, rows.map (·.l)⟩ :=
    ⟨hk2, hfar h1.cod (by decide), hfar h1.wnt (by decide), hfar h1.tab (by decide), rfl, fun j hj => hfar (h1.row j hj) (by decide), h1.far, h1.nw, h1.hlo, h1.rl, h1.wl⟩
  have hz2 := hz0.far (p := ⟨P, 3, none⟩) (by show Z ≠ P; omega) (.int .u32 (wN (wBut c.inn (wShl w1 i))))
  have hb2 := hb1.setCell (p := ⟨P, 3, none⟩) hloP (.int .u32 (wN (wBut c.inn (wShl w1 i))))
  obtain ⟨V2, hV2⟩ : ∃ V2, V2 = V.setCell ⟨P, 3, none⟩ (.int .u32 (wN (wBut c.inn (wShl w1 i)))) := ⟨_, rfl⟩
  rw [← hV2] at h2 hz2 hb2
  have H2 := Lib.hid (h2.drew)
  have HZ2 := Lib.hid (hz2.drew)
  have HB2 := Lib.hid (hb2.drew)
  have d5 := H2.out.blk.cell 5
  have HLT := Lib.hid hlt
  have HLEN := Lib.hid hlen
  have HT := Lib.hid h.tsk
  have HRL := Lib.hid h.rl
  have HV := Lib.hid hV
  have HV2 := Lib.hid hV2
  have HZ := Lib.hid hZ
  have hi0 : (0 : Int) ≤ (i : Int) := by omega
  clear h h1 h2 hz0 hz2 hb1 hb2 hlt hlen hk2 hfar hV hV2 hZ
  go_enter Try.func89, Try.ntmps89
  go_wp2_with fail
  rw [← HV.out, ← HZ.out]
  refine region_plain 11 12 (fun w' => w' = V.drew) (by kernel_rfl) rfl ?_
  refine anyC_reads (by kernel_rfl) [0, 1, 2, 3, 4, 5, 6, 7, 8, 9, 10] ?opz ?ohz 1 _ _ _ (by kernel_rfl) ?okz
  case ohz => (simp only [List.filterMap_cons, List.filterMap_nil, List.getElem?_toArray, List.getElem?_cons_zero, List.getElem?_cons_succ]; try rfl)
  repeat (
    refine readC_step (v := ?_) rfl (fun w' hw' => ?_) ?_
    rotate_left
    focus (subst hw'; go_simp; try with_reducible rfl)
    go_simp)
  refine readC_nil ?_
  refine anyC_one (i := 11) (by kernel_rfl) rfl rfl (.inr rfl) ?_
  go_simp
  rw [← HV2.out]
  refine anyC_end (by kernel_rfl) (.inl rfl) ?_
  go_wp2_with fail
  go_loopw [23] (fun s23 wr => LeaveI lo P vw vs m gw gt Ac kc rows c i Z w s23 wr) (fun s23 _ => m - (intOf s23).toNat)
  case atStart => exact ⟨0, rows, Nat.zero_le _, rfl, HB2.out, H2.out, HZ2.out, fun j _ => rfl, fun j hj => by omega, fun j _ _ => rfl⟩
  case round =>
    clear HZ2 HB2 H2 d5 c3 f3 cz
    rename World => wr
    obtain ⟨k, rows', hk, rfl, hb, h, hz, hA, hdone, hleft⟩ := hrel
    by_cases hkm : k < m
    · have hkl : k < rows'.length := by rw [h.rl]; exact hkm
      obtain ⟨g', hg', hlg, _, r0, f0⟩ := h.tab.cell1 (f := fun s : Sls Int => s.val) hkl
      have : gt = g' := by simpa using hg'
      subst this
      rw [← getD_at rows' k hkl ⟨none, 0, []⟩] at r0
      have hat : rows'.getD k ⟨none, 0, []⟩ = rwAt rows' k := rfl
      rw [hat] at r0
      have hAk := hA k hkm
      have hlk := hleft k (Nat.le_refl _) hkm
      have hck := h.row k hkm
      have hnz : ∀ j, j < m → blkOf (rwAt rows' j).A ≠ some Z := fun j hj e => by
        rw [hA j hj] at e
        have := HLT.out j hj Z e
        omega
      have hl6 := HLEN.out k hkm
      rw [← hlk] at hl6
      have hnx : ∀ s : Sls Int, s.A = (rwAt rows' k).A → s.l = (rwAt rows' k).l.filter (fun x => !(x == (i : Int))) → (∀ j, j < m → (rwAt (rows'.set k s) j).A = (rwAt rows j).A) ∧ (∀ j, j < k + 1 → (rwAt (rows'.set k s) j).l = (rwAt rows j).l.filter fun x => x != (i : Int)) ∧ ∀ j, k + 1 ≤ j → j < m → (rwAt (rows'.set k s) j).l = (rwAt rows j).l := fun s hs1 hs2 => by
        have hat : ∀ j, rwAt (rows'.set k s) j = if k = j then s else rwAt rows' j := fun j => getD_set_any rows' k j s _ hkl
        refine ⟨fun j hj => ?_, fun j hj => ?_, fun j hj hjm => ?_⟩
        · rw [hat]
          split
          · rename_i e; rw [hs1, hAk, e]
          · exact hA j hj
        · rw [hat]
          split
          · rename_i e; rw [hs2, hlk, e]; rfl
          · exact hdone j (by omega)
        · rw [hat, if_neg (by omega)]
          exact hleft j (by omega) hjm
      have d5 := h.blk.cell 5
      obtain ⟨sk, hsk⟩ : ∃ sk, sk = rwAt rows' k := ⟨_, rfl⟩
      rw [← hsk] at r0 hck hl6 hnx
      have HDEL := Lib.hid (DeleteFunc_ints 119 ent_leave1 #[.pointer (some ⟨Z, 0, none⟩)] (fun x => x == (i : Int)) sk.A sk.l.length lo sk.c sk.l wr.drew rfl hl6 hck.drew (fun a wx hg =>
        crew_leave1 a i Z wx ((hg.cell (hz.drew.cell 0) (fun e => hnz k hkm (by rw [← hsk, ← e])))) ))
      have H := Lib.hid h
      have HZ' := Lib.hid hz
      have HB := Lib.hid hb
      have HNX := Lib.hid hnx
      have HSK := Lib.hid hsk
      have HNZ := Lib.hid hnz
      have HCK := Lib.hid hck
      have hkr : k < rows'.length := hkl
      have HRL' := Lib.hid h.rl
      clear h hz hb hnx hsk hnz hck hA hdone hleft hAk hlk hat hl6
      have hmm : k < m := hkm
      go_wp2_with fail
      refine region_plain 10 11 (fun w' => w'.cell? ⟨P, 5, none⟩ = some (.slice (some ⟨gt, 0, none⟩) m m)) (by kernel_rfl) rfl ?_
      refine anyC_reads (by kernel_rfl) [0, 1, 2, 3, 4, 5, 6, 7] ?opy ?ohy 3 _ _ _ (by kernel_rfl) ?oky
      case ohy => (simp only [List.filterMap_cons, List.filterMap_nil, List.getElem?_toArray, List.getElem?_cons_zero, List.getElem?_cons_succ]; try rfl)
      repeat (
        refine readC_step (v := ?_) rfl (fun w' hw' => ?_) ?_
        rotate_left
        focus (have p1 := hw'; go_simp; try with_reducible rfl)
        go_simp)
      refine readC_nil ?_
      refine anyC_one (i := 8) (by kernel_rfl) rfl rfl (.inr d5) ?_
      go_simp
      refine HDEL.out.mono ?_
      clear HDEL
      rintro e w2 ⟨rfl, ho2, hg2⟩
      have h2 := H.out.drew
      have hother : ∀ j, j < m → j ≠ k → Own w2 lo 3 1 icell (rwAt rows' j).A (rwAt rows' j).c (rwAt rows' j).l := fun j hj hne => by
        refine (h2.row j hj).kept hg2 ?_
        cases hA : blkOf (rwAt rows' j).A with
        | none => exact .inl rfl
        | some g =>
          refine .inr fun e => ?_
          rw [HSK.out] at e
          exact h2.far k j hmm hj (fun e => hne e.symm) g e.symm hA
      have hty : ∀ {α : Type} {B cc cap : Nat} {e : TypeId} {f : α → List Value} {A : Option Addr} {l : List α}, Own wr.drew B e cc f A cap l → e ≠ 3 → Own w2 B e cc f A cap l := fun ho he => by
        refine ho.kept hg2 ?_
        rename_i A _
        cases hA : blkOf A with
        | none => exact .inl rfl
        | some g =>
          refine .inr fun e => ?_
          obtain ⟨cur, hcur⟩ := own_cellsAt ho hA
          exact own_far_blk HCK.out.drew hcur (fun e => he e.symm) e.symm
      have hbk : Blk w2 P 92 _ := h2.blk.grown hg2 (fun e => own_far_blk HCK.out.drew h2.blk (by decide) e.symm)
      have hwn : Own w2 lo 3 1 icell (some ⟨gw, 0, none⟩) m c.wants := h2.wnt.kept hg2 (.inr fun e => h2.nw k hmm (by rw [← HSK.out]; exact e.symm))
      have hput := h2.put (s := ⟨sk.A, sk.c, sk.l.filter fun x => !(x == (i : Int))⟩) hmm hbk (hty h2.cod (by decide)) hwn (hty h2.tab (by decide)) hother ho2 (fun j hj hne g hg => h2.far k j hmm hj (fun e => hne e.symm) g (by rw [← HSK.out]; exact hg)) (by rw [HSK.out]; exact h2.nw k hmm)
      rw [← List.map_set] at hput
      have hz2 := (HZ'.out.drew.grown hg2 (fun e => HNZ.out k hmm (by rw [← HSK.out]; exact e.symm))).far (p := ⟨gt, k, none⟩) (fun e => own_far_blk h2.tab HZ'.out.drew (by decide) (by rw [e]; rfl)) (.slice sk.A (sk.l.filter fun x => !(x == (i : Int))).length sk.c)
      have hb2 := (HB.out.drew.grown hg2 (by have := h2.blk.lt; have := h2.hlo; omega) (fun g e => ((HCK.out.drew).lt g e).1)).setCell (p := ⟨gt, k, none⟩) hlg (.slice sk.A (sk.l.filter fun x => !(x == (i : Int))).length sk.c)
      have d5' := hbk.cell 5
      obtain ⟨gt', hgt', _, _, r2, f2⟩ := (hty h2.tab (by decide)).cell1 (f := fun s : Sls Int => s.val) hkr
      have : gt = gt' := by simpa using hgt'
      subst this
      have HPUT := Lib.hid hput
      have HZ3 := Lib.hid hz2
      have HB3 := Lib.hid hb2
      have HN3 := Lib.hid (HNX.out ⟨sk.A, sk.c, sk.l.filter fun x => !(x == (i : Int))⟩ (by rw [HSK.out]) (by rw [HSK.out]))
      clear h2 hother hty hbk hwn hput hz2 hb2 ho2 hg2
      refine anyC_one (i := 9) (by kernel_rfl) rfl rfl (.inr d5') ?_
      go_simp
      refine anyC_one (i := 10) (by kernel_rfl) rfl rfl (.inr d5') ?_
      go_simp
      refine anyC_end (by kernel_rfl) (.inl rfl) ?_
      go_wp2_with fail
      go_roundw
      case rel => exact ⟨k + 1, _, by omega, by go_num, HB3.out, HPUT.out, HZ3.out, HN3.out.1, HN3.out.2.1, HN3.out.2.2⟩
      case measure => simp [intOf]; omega
    · obtain rfl : k = m := by omega
      have he := leaveI_end HRL.out h.rl HT.out hdone
      rw [he] at h
      have H := Lib.hid h
      have HB := Lib.hid hb
      clear h hb hdone hleft hA he
      go_wp2_with fail
      go_end0
      exact ⟨⟨_, rfl⟩, rows', H.out, HB.out⟩
end Go.Proofs.Ytdinknpagklkjaa

/- One change. Conditions: the crew lies in memory; workers and services read as lists. -/
namespace Go.Proofs.Ytdinknpagklkjaa
open Go.RowKit
attribute [local go_sem ↓] w_and w_or w_xor w_andNot w_and1 w_and255 w_xor1 w_or0 w_shl w_shl1 w_shr w_sub w_add w_sub1 w_add1
attribute [local go_sem] w_eq0 w_ne0 w_eq1 w_eq w_ne
attribute [local go_sem] Oper.semAt_some

theorem CrewIn.same {w : World} {lo P m gw gt kc : Nat} {vw vs : Value} {Ac : Option Addr} {rows : List (Sls Int)} {c c' : Cw} (h : CrewIn w lo P vw vs m gw gt Ac kc rows c) (he : c' = c) : CrewIn w lo P vw vs m gw gt Ac kc rows c' := by rw [he]; exact h
theorem CrewIn.join {w : World} {lo P m gw gt kc : Nat} {vw vs : Value} {Ac : Option Addr} {rows : List (Sls Int)} {c : Cw} (h : CrewIn w lo P vw vs m gw gt Ac kc rows c) (x : BitVec 32) : CrewIn (w.setCell ⟨P, 3, none⟩ (.int .u32 (wN x))) lo P vw vs m gw gt Ac kc rows { c with inn := x } := by
  have hk2 := h.blk.put 3 (.int .u32 (wN x))
  have hfar : ∀ {α : Type} {B cc cap : Nat} {e : TypeId} {f : α → List Value} {A : Option Addr} {l : List α}, Own w B e cc f A cap l → e ≠ 92 → Own (w.setCell ⟨P, 3, none⟩ (.int .u32 (wN x))) B e cc f A cap l := fun ho he =>
    ho.far (p := ⟨P, 3, none⟩) (fun e => own_far_blk ho h.blk he e) _
  exact ⟨hk2, hfar h.cod (by decide), hfar h.wnt (by decide), hfar h.tab (by decide), h.tsk, fun j hj => hfar (h.row j hj) (by decide), h.far, h.nw, h.hlo, h.rl, h.wl⟩
theorem rw_len {rows : List (Sls Int)} {t : List (List Int)} (h : rows.map (·.l) = t) (j : Nat) : (rwAt rows j).l = t.getD j [] := by
  subst h
  unfold rwAt
  rw [List.getD_eq_getElem?_getD, List.getD_eq_getElem?_getD, List.getElem?_map]
  cases rows[j]? <;> rfl
set_option maxRecDepth 100000 in
set_option maxHeartbeats 2000000 in
theorem crew_change (A B : Option Addr) (W cA cB lo P m gw gt kc : Nat) (Ac : Option Addr) (rows : List (Sls Int)) (c : Cw) (ws : List Wk) (svs : List (BitVec 32)) (x : Chg) (w : World) (h : CrewIn w lo P (.slice A W cA) (.slice B m cB) m gw gt Ac kc rows c) (hm : m ≤ 12)
    (hW : ws.length = W) (hW6 : W ≤ 6) (hM : svs.length = m) (hgood : ∀ k ∈ ws, 0 ≤ k.1 ∧ k.1 ≤ 12) (hok : CwOk ws svs c) (hws : Els w lo 2 wkcell A ws) (hts : Els w lo 1 wcell B svs) :
    Calls Try.prog 43 #[.pointer (some ⟨P, 0, none⟩), .agg #[.int .i64 x.1, .int .i64 x.2.1, .int .i64 x.2.2]] w fun e w' => e = .returned (.int .i64 (chgF ws svs c x).2) ∧ Below lo w w' ∧ ∃ rows', CrewIn w' lo P (.slice A W cA) (.slice B m cB) m gw gt Ac kc rows' (chgF ws svs c x).1 := by
  obtain ⟨K, who, n⟩ := x
  have hZ := Blk.new w 41 #[.int .i64 K, .int .i64 who, .int .i64 n]
  have h1 := h.alloc (.cells #[.int .i64 K, .int .i64 who, .int .i64 n] 41)
  have hloz : lo ≤ w.heap.size := by have := h.blk.lt; have := h.hlo; omega
  have hb1 := (Below.refl lo w).alloc hloz (.cells #[.int .i64 K, .int .i64 who, .int .i64 n] 41)
  have z0 := hZ.cell 0
  have z1 := hZ.cell 1
  have z2 := hZ.cell 2
  have c0 := h1.blk.cell 0
  have c1 := h1.blk.cell 1
  obtain ⟨V, hV⟩ : ∃ V, V = w.alloc (.cells #[.int .i64 K, .int .i64 who, .int .i64 n] 41) := ⟨_, rfl⟩
  rw [← hV] at h1 hb1
  have hws1 := hws.below hb1
  have hts1 := hts.below hb1
  have H := Lib.hid h1
  have HB := Lib.hid hb1
  have HV := Lib.hid hV
  have HOK := Lib.hid hok
  have HW := Lib.hid hW
  have HM := Lib.hid hM
  have HWS := Lib.hid hws1
  have HTS := Lib.hid hts1
  have HG := Lib.hid hgood
  clear h hZ h1 hb1 hV hok hws hts hws1 hts1 hW hM hgood
  by_cases hlo1 : K < 1
  · have he : chgF ws svs c (K, who, n) = (c, 6) := by
      unfold chgF
      rw [if_pos (.inl hlo1)]
    have h3 : (K == 3) = false := by simp; omega
    rw [he]
    clear he
    go_enter Try.func43, Try.ntmps43
    go_wp2_with fail
    rw [← HV.out]
    go_ret
    exact ⟨ret_i64 rfl, HB.out, rows, H.out⟩
  · by_cases hhi : 4 < K
    · have he : chgF ws svs c (K, who, n) = (c, 6) := by
        unfold chgF
        rw [if_pos (.inr hhi)]
      have h3 : (K == 3) = false := by simp; omega
      rw [he]
      clear he
      go_enter Try.func43, Try.ntmps43
      go_wp2_with fail
      rw [← HV.out]
      go_ret
      exact ⟨ret_i64 rfl, HB.out, rows, H.out⟩
    · have hK : K = 1 ∨ K = 2 ∨ K = 3 ∨ K = 4 := by omega
      clear hlo1 hhi
      rcases hK with rfl | rfl | rfl | rfl
      ·
        by_cases hw0 : who < 0
        · have he : chgF ws svs c (1, who, n) = (c, 2) := by
            unfold chgF
            rw [if_neg (by show ¬((1 : Int) < 1 ∨ (4 : Int) < 1); omega), if_neg (by show ¬((1 : Int) = 4); omega), if_pos (.inl hw0)]
          rw [he]
          clear he
          go_enter Try.func43, Try.ntmps43
          go_wp2_with fail
          rw [← HV.out]
          go_ret
          exact ⟨ret_i64 rfl, HB.out, rows, H.out⟩
        · by_cases hw1 : (W : Int) ≤ who
          · have he : chgF ws svs c (1, who, n) = (c, 2) := by
              unfold chgF
              rw [if_neg (by show ¬((1 : Int) < 1 ∨ (4 : Int) < 1); omega), if_neg (by show ¬((1 : Int) = 4); omega), if_pos (.inr (by rw [if_neg (by show ¬((1 : Int) = 3); omega), HW.out]; exact hw1))]
            rw [he]
            clear he
            go_enter Try.func43, Try.ntmps43
            go_wp2_with fail
            rw [← HV.out]
            go_ret
            exact ⟨ret_i64 rfl, HB.out, rows, H.out⟩
          · obtain ⟨s, rfl⟩ := Int.eq_ofNat_of_zero_le (show 0 ≤ who by omega)
            have hsm : s < W := by omega
            have he0 : ¬(((s : Int) < 0) ∨ (((if (1 : Int) = 3 then svs.length else ws.length : Nat) : Int) ≤ (s : Int))) := by rw [if_neg (by decide), HW.out]; omega
            clear hw0 hw1
            rcases Bool.eq_false_or_eq_true (bitB c.inn s) with hbit | hbit
            ·
              have he : chgF ws svs c (1, (s : Int), n) = (c, 7) := by
                unfold chgF
                rw [if_neg (by show ¬((1 : Int) < 1 ∨ (4 : Int) < 1); omega), if_neg (by show ¬((1 : Int) = 4); omega), if_neg he0, if_neg (by show ¬((1 : Int) = 3); omega), if_pos (by rw [hbit]; rfl)]
              rw [he]
              clear he he0
              have HIN := Lib.hid (crew_in P _ _ _ _ _ c.inn s V.drew H.out.drew.blk)
              rw [hbit] at HIN
              have y0 : V.cell? ⟨w.heap.size, 0, none⟩ = some (.int .i64 1) := by rw [HV.out]; exact z0
              have y1 : V.cell? ⟨w.heap.size, 1, none⟩ = some (.int .i64 s) := by rw [HV.out]; exact z1
              clear hbit
              go_enter Try.func43, Try.ntmps43
              go_wp2_with fail
              rw [← HV.out]
              refine region_plain 8 9 (fun w' => w' = V.drew) (by kernel_rfl) rfl ?_
              refine anyC_reads (by kernel_rfl) [0, 1, 2, 4, 5, 6] ?opa ?oha 3 _ _ _ (by kernel_rfl) ?oka
              case oha => (simp only [List.filterMap_cons, List.filterMap_nil, List.getElem?_toArray, List.getElem?_cons_zero, List.getElem?_cons_succ]; try rfl)
              repeat (
                refine readC_step (v := ?_) rfl (fun w' hw' => ?_) ?_
                rotate_left
                focus (subst hw'; go_simp; try with_reducible rfl)
                go_simp)
              refine readC_nil ?_
              refine anyC_one (i := 3) (by kernel_rfl) rfl rfl (.inr rfl) ?_
              go_simp
              refine HIN.out.mono ?_
              rintro e w2 ⟨rfl, rfl⟩
              refine anyC_one (i := 7) (by kernel_rfl) rfl rfl (.inr rfl) ?_
              go_simp
              refine anyC_one (i := 8) (by kernel_rfl) rfl rfl (.inr rfl) ?_
              go_simp
              refine anyC_end (by kernel_rfl) (.inl rfl) ?_
              go_wp2_with fail
              go_ret
              exact ⟨ret_i64 rfl, HB.out.drew, rows, H.out.drew⟩
            ·
              have he : chgF ws svs c (1, (s : Int), n) = ({ c with inn := wOr c.inn (wShl w1 s) }, 0) := by
                unfold chgF
                rw [if_neg (by show ¬((1 : Int) < 1 ∨ (4 : Int) < 1); omega), if_neg (by show ¬((1 : Int) = 4); omega), if_neg he0, if_neg (by show ¬((1 : Int) = 3); omega), if_neg (by rw [hbit]; simp), if_pos rfl]
                simp only [Int.toNat_natCast]
              rw [he]
              clear he he0
              have HIN := Lib.hid (crew_in P _ _ _ _ _ c.inn s V.drew H.out.drew.blk)
              rw [hbit] at HIN
              have y0 : V.cell? ⟨w.heap.size, 0, none⟩ = some (.int .i64 1) := by rw [HV.out]; exact z0
              have y1 : V.cell? ⟨w.heap.size, 1, none⟩ = some (.int .i64 s) := by rw [HV.out]; exact z1
              clear hbit
              go_enter Try.func43, Try.ntmps43
              go_wp2_with fail
              rw [← HV.out]
              refine region_plain 8 9 (fun w' => w' = V.drew) (by kernel_rfl) rfl ?_
              refine anyC_reads (by kernel_rfl) [0, 1, 2, 4, 5, 6] ?opb ?ohb 3 _ _ _ (by kernel_rfl) ?okb
              case ohb => (simp only [List.filterMap_cons, List.filterMap_nil, List.getElem?_toArray, List.getElem?_cons_zero, List.getElem?_cons_succ]; try rfl)
              repeat (
                refine readC_step (v := ?_) rfl (fun w' hw' => ?_) ?_
                rotate_left
                focus (subst hw'; go_simp; try with_reducible rfl)
                go_simp)
              refine readC_nil ?_
              refine anyC_one (i := 3) (by kernel_rfl) rfl rfl (.inr rfl) ?_
              go_simp
              refine HIN.out.mono ?_
              rintro e w2 ⟨rfl, rfl⟩
              refine anyC_one (i := 7) (by kernel_rfl) rfl rfl (.inr rfl) ?_
              go_simp
              refine anyC_one (i := 8) (by kernel_rfl) rfl rfl (.inr rfl) ?_
              go_simp
              refine anyC_end (by kernel_rfl) (.inl rfl) ?_
              go_wp2_with fail
              have hk3 := H.out.blk.cell 3
              have hf3 := H.out.blk.frozen 3
              have hs0 : (0 : Int) ≤ (s : Int) := by omega
              refine region_plain 12 13 (fun w' => w' = V.drew.drew) (by kernel_rfl) rfl ?_
              refine anyC_reads (by kernel_rfl) [0, 1, 2, 3, 4, 5, 6, 7, 8, 9, 10, 11] ?opj ?ohj 1 _ _ _ (by kernel_rfl) ?okj
              case ohj => (simp only [List.filterMap_cons, List.filterMap_nil, List.getElem?_toArray, List.getElem?_cons_zero, List.getElem?_cons_succ]; try rfl)
              repeat (
                refine readC_step (v := ?_) rfl (fun w' hw' => ?_) ?_
                rotate_left
                focus (subst hw'; go_simp; try with_reducible rfl)
                go_simp)
              refine readC_nil ?_
              refine anyC_one (i := 12) (by kernel_rfl) rfl rfl (.inr rfl) ?_
              go_simp
              refine anyC_end (by kernel_rfl) (.inl rfl) ?_
              go_wp2_with fail
              go_ret
              have hlP := H.out.hlo
              exact ⟨ret_i64 rfl, ((HB.out.setCell (p := ⟨P, 3, none⟩) hlP _).drew).drew, rows, ((H.out.join _).drew).drew⟩
      ·
        by_cases hw0 : who < 0
        · have he : chgF ws svs c (2, who, n) = (c, 2) := by
            unfold chgF
            rw [if_neg (by show ¬((2 : Int) < 1 ∨ (4 : Int) < 2); omega), if_neg (by show ¬((2 : Int) = 4); omega), if_pos (.inl hw0)]
          rw [he]
          clear he
          go_enter Try.func43, Try.ntmps43
          go_wp2_with fail
          rw [← HV.out]
          go_ret
          exact ⟨ret_i64 rfl, HB.out, rows, H.out⟩
        · by_cases hw1 : (W : Int) ≤ who
          · have he : chgF ws svs c (2, who, n) = (c, 2) := by
              unfold chgF
              rw [if_neg (by show ¬((2 : Int) < 1 ∨ (4 : Int) < 2); omega), if_neg (by show ¬((2 : Int) = 4); omega), if_pos (.inr (by rw [if_neg (by show ¬((2 : Int) = 3); omega), HW.out]; exact hw1))]
            rw [he]
            clear he
            go_enter Try.func43, Try.ntmps43
            go_wp2_with fail
            rw [← HV.out]
            go_ret
            exact ⟨ret_i64 rfl, HB.out, rows, H.out⟩
          · obtain ⟨s, rfl⟩ := Int.eq_ofNat_of_zero_le (show 0 ≤ who by omega)
            have hsm : s < W := by omega
            have he0 : ¬(((s : Int) < 0) ∨ (((if (2 : Int) = 3 then svs.length else ws.length : Nat) : Int) ≤ (s : Int))) := by rw [if_neg (by decide), HW.out]; omega
            clear hw0 hw1
            rcases Bool.eq_false_or_eq_true (bitB c.inn s) with hbit | hbit
            ·
              have he : chgF ws svs c (2, (s : Int), n) = (⟨c.codes, wBut c.inn (wShl w1 s), c.wants, leftF c.tasks s⟩, 0) := by
                unfold chgF
                rw [if_neg (by show ¬((2 : Int) < 1 ∨ (4 : Int) < 2); omega), if_neg (by show ¬((2 : Int) = 4); omega), if_neg he0, if_neg (by show ¬((2 : Int) = 3); omega), if_neg (by rw [hbit]; simp), if_neg (by show ¬((2 : Int) = 1); omega)]
                simp only [Int.toNat_natCast]
              rw [he]
              clear he he0
              have HIN := Lib.hid (crew_in P _ _ _ _ _ c.inn s V.drew H.out.drew.blk)
              rw [hbit] at HIN
              have y0 : V.cell? ⟨w.heap.size, 0, none⟩ = some (.int .i64 2) := by rw [HV.out]; exact z0
              have y1 : V.cell? ⟨w.heap.size, 1, none⟩ = some (.int .i64 s) := by rw [HV.out]; exact z1
              clear hbit
              go_enter Try.func43, Try.ntmps43
              go_wp2_with fail
              rw [← HV.out]
              refine region_plain 8 9 (fun w' => w' = V.drew) (by kernel_rfl) rfl ?_
              refine anyC_reads (by kernel_rfl) [0, 1, 2, 4, 5, 6] ?opc ?ohc 3 _ _ _ (by kernel_rfl) ?okc
              case ohc => (simp only [List.filterMap_cons, List.filterMap_nil, List.getElem?_toArray, List.getElem?_cons_zero, List.getElem?_cons_succ]; try rfl)
              repeat (
                refine readC_step (v := ?_) rfl (fun w' hw' => ?_) ?_
                rotate_left
                focus (subst hw'; go_simp; try with_reducible rfl)
                go_simp)
              refine readC_nil ?_
              refine anyC_one (i := 3) (by kernel_rfl) rfl rfl (.inr rfl) ?_
              go_simp
              refine HIN.out.mono ?_
              rintro e w2 ⟨rfl, rfl⟩
              refine anyC_one (i := 7) (by kernel_rfl) rfl rfl (.inr rfl) ?_
              go_simp
              refine anyC_one (i := 8) (by kernel_rfl) rfl rfl (.inr rfl) ?_
              go_simp
              refine anyC_end (by kernel_rfl) (.inl rfl) ?_
              go_wp2_with fail
              have HT := Lib.hid (crew_leave lo P m gw gt kc _ _ Ac rows c s V.drew H.out.drew hm (fun j hj => by rw [rw_len H.out.tsk]; have := HOK.out.t12 j; omega))
              refine HT.out.mono ?_
              clear HT
              rintro e w3 ⟨⟨v3, rfl⟩, rows3, h3, hb3⟩
              have H3 := Lib.hid h3
              have HB3 := Lib.hid (HB.out.drew.trans hb3)
              clear h3 hb3
              go_wp2_with fail
              go_ret
              exact ⟨ret_i64 rfl, HB3.out, rows3, H3.out⟩
            ·
              have he : chgF ws svs c (2, (s : Int), n) = (c, 7) := by
                unfold chgF
                rw [if_neg (by show ¬((2 : Int) < 1 ∨ (4 : Int) < 2); omega), if_neg (by show ¬((2 : Int) = 4); omega), if_neg he0, if_neg (by show ¬((2 : Int) = 3); omega), if_pos (by rw [hbit]; rfl)]
              rw [he]
              clear he he0
              have HIN := Lib.hid (crew_in P _ _ _ _ _ c.inn s V.drew H.out.drew.blk)
              rw [hbit] at HIN
              have y0 : V.cell? ⟨w.heap.size, 0, none⟩ = some (.int .i64 2) := by rw [HV.out]; exact z0
              have y1 : V.cell? ⟨w.heap.size, 1, none⟩ = some (.int .i64 s) := by rw [HV.out]; exact z1
              clear hbit
              go_enter Try.func43, Try.ntmps43
              go_wp2_with fail
              rw [← HV.out]
              refine region_plain 8 9 (fun w' => w' = V.drew) (by kernel_rfl) rfl ?_
              refine anyC_reads (by kernel_rfl) [0, 1, 2, 4, 5, 6] ?opd ?ohd 3 _ _ _ (by kernel_rfl) ?okd
              case ohd => (simp only [List.filterMap_cons, List.filterMap_nil, List.getElem?_toArray, List.getElem?_cons_zero, List.getElem?_cons_succ]; try rfl)
              repeat (
                refine readC_step (v := ?_) rfl (fun w' hw' => ?_) ?_
                rotate_left
                focus (subst hw'; go_simp; try with_reducible rfl)
                go_simp)
              refine readC_nil ?_
              refine anyC_one (i := 3) (by kernel_rfl) rfl rfl (.inr rfl) ?_
              go_simp
              refine HIN.out.mono ?_
              rintro e w2 ⟨rfl, rfl⟩
              refine anyC_one (i := 7) (by kernel_rfl) rfl rfl (.inr rfl) ?_
              go_simp
              refine anyC_one (i := 8) (by kernel_rfl) rfl rfl (.inr rfl) ?_
              go_simp
              refine anyC_end (by kernel_rfl) (.inl rfl) ?_
              go_wp2_with fail
              go_ret
              exact ⟨ret_i64 rfl, HB.out.drew, rows, H.out.drew⟩
      ·
        by_cases hw0 : who < 0
        · have he : chgF ws svs c (3, who, n) = (c, 2) := by
            unfold chgF
            rw [if_neg (by show ¬((3 : Int) < 1 ∨ (4 : Int) < 3); omega), if_neg (by show ¬((3 : Int) = 4); omega), if_pos (.inl hw0)]
          rw [he]
          clear he
          go_enter Try.func43, Try.ntmps43
          go_wp2_with fail
          rw [← HV.out]
          go_ret
          exact ⟨ret_i64 rfl, HB.out, rows, H.out⟩
        · by_cases hw1 : (m : Int) ≤ who
          · have he : chgF ws svs c (3, who, n) = (c, 2) := by
              unfold chgF
              rw [if_neg (by show ¬((3 : Int) < 1 ∨ (4 : Int) < 3); omega), if_neg (by show ¬((3 : Int) = 4); omega), if_pos (.inr (by rw [if_pos rfl, HM.out]; exact hw1))]
            rw [he]
            clear he
            go_enter Try.func43, Try.ntmps43
            go_wp2_with fail
            rw [← HV.out]
            go_ret
            exact ⟨ret_i64 rfl, HB.out, rows, H.out⟩
          · obtain ⟨s, rfl⟩ := Int.eq_ofNat_of_zero_le (show 0 ≤ who by omega)
            have hsm : s < m := by omega
            have he0 : ¬(((s : Int) < 0) ∨ (((if (3 : Int) = 3 then svs.length else ws.length : Nat) : Int) ≤ (s : Int))) := by rw [if_pos rfl, HM.out]; omega
            clear hw0 hw1
            have he : chgF ws svs c (3, (s : Int), n) = (wantC c s n, wantE c.wants s n) := by
              unfold chgF
              rw [if_neg (by show ¬((3 : Int) < 1 ∨ (4 : Int) < 3); omega), if_neg (by show ¬((3 : Int) = 4); omega), if_neg he0, if_pos rfl]
              unfold wantC wantE
              simp only [Int.toNat_natCast]
              by_cases h1 : n < 0
              · rw [if_pos h1, if_pos h1, if_neg (by decide)]
              · rw [if_neg h1, if_neg h1]
                by_cases h2 : 12 - othTo c.wants s c.wants.length < n
                · rw [if_pos h2, if_pos h2, if_neg (by decide)]
                · rw [if_neg h2, if_neg h2, if_pos rfl]
            rw [he]
            clear he he0
            have HT := Lib.hid (crew_want lo P m gw gt kc _ _ Ac rows c s n V H.out HOK.out.w0 HOK.out.w12 hsm hm)
            go_enter Try.func43, Try.ntmps43
            go_wp2_with fail
            rw [← HV.out]
            refine HT.out.mono ?_
            clear HT
            rintro e w2 ⟨rfl, h2, hb2⟩
            have H2 := Lib.hid h2
            have HB2 := Lib.hid (HB.out.trans hb2)
            clear h2 hb2
            go_wp2_with fail
            go_ret
            exact ⟨rfl, HB2.out, rows, H2.out⟩
      · have he : chgF ws svs c (4, who, n) = ({ c with tasks := tickF ws svs c.inn c.wants }, 0) := by
          unfold chgF
          rw [if_neg (by show ¬((4 : Int) < 1 ∨ (4 : Int) < 4); omega), if_pos rfl]
        rw [he]
        clear he
        have HT := Lib.hid (crew_tick A B W cA cB lo P m gw gt kc Ac rows c ws svs V H.out hm HW.out hW6 HM.out HG.out HOK.out.w0 HOK.out.w12 HWS.out HTS.out)
        go_enter Try.func43, Try.ntmps43
        go_wp2_with fail
        rw [← HV.out]
        refine HT.out.mono ?_
        clear HT
        rintro e w2 ⟨⟨v2, rfl⟩, rows2, h2, hb2⟩
        have H2 := Lib.hid h2
        have HB2 := Lib.hid (HB.out.trans hb2)
        clear h2 hb2
        go_wp2_with fail
        go_ret
        exact ⟨ret_i64 rfl, HB2.out, rows2, H2.out⟩
end Go.Proofs.Ytdinknpagklkjaa
