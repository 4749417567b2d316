/- The document's change, all kinds. Conditions: the crew lies in memory; workers and services read as lists. -/
import Derived.Test.YtdinknpagklkjaaCrewPlays22
import Derived.Test.YtdinknpagklkjaaCrewPlays17
import Derived.Test.YtdinknpagklkjaaCrewPlays16
namespace Go.Proofs.Ytdinknpagklkjaa
open Go.RowKit

theorem rw_len' {rows : List (Sls Int)} {t : List (List Int)} (h : rows.map (·.l) = t) (j : Nat) : (rwAt rows j).l = t.getD j [] := by
  subst h
  unfold rwAt
  rw [List.getD_eq_getElem?_getD, List.getD_eq_getElem?_getD, List.getElem?_map]
  cases rows[j]? <;> rfl
theorem ref_changed (A B : Option Addr) (W cA cB lo P m gw gt kc : Nat) (Ac : Option Addr) (rows : List (Sls Int)) (c : Cw) (ws : List Wk) (svs : List (BitVec 32)) (x : Chg) (w : World) (h : CrefIn w lo P m gw gt Ac kc rows c) (hm : m ≤ 12)
    (hW : ws.length = W) (hW6 : W ≤ 6) (hM : svs.length = m) (hgood : ∀ k ∈ ws, 0 ≤ k.1 ∧ k.1 ≤ 12) (hok : CwOk ws svs c) (hws : Els w lo 2 wkcell A ws) (hts : Els w lo 1 wcell B svs) :
    Calls Try.prog 83 #[.pointer (some ⟨P, 0, none⟩), .slice A W cA, .slice B m cB, .agg #[.int .i64 x.1, .int .i64 x.2.1, .int .i64 x.2.2]] w fun e w' => e = .returned (.int .i64 (chgF ws svs c x).2) ∧ Below lo w w' ∧ ∃ rows', CrefIn w' lo P m gw gt Ac kc rows' (chgF ws svs c x).1 := by
  obtain ⟨K, who, n⟩ := x
  by_cases hK : K < 1 ∨ 4 < K
  · have he : chgF ws svs c (K, who, n) = (c, 6) := by
      unfold chgF
      rw [if_pos hK]
    rw [he]
    exact (cref_kind A B W cA cB lo P m gw gt kc Ac rows c K who n w h hK).mono fun e w' ⟨h1, h2, h3⟩ => ⟨h1, h2, rows, h3⟩
  by_cases h4 : K = 4
  · subst h4
    have he : chgF ws svs c (4, who, n) = ({ c with tasks := tickF ws svs c.inn c.wants }, 0) := by
      unfold chgF
      rw [if_neg hK, if_pos rfl]
    rw [he]
    exact cref_tick A B W cA cB lo P m gw gt kc Ac rows c who n ws svs w h hm hW hW6 hM hgood hok.w0 hok.w12 hws hts
  have h123 : K = 1 ∨ K = 2 ∨ K = 3 := by omega
  by_cases hneg : who < 0
  · have he : chgF ws svs c (K, who, n) = (c, 2) := by
      unfold chgF
      rw [if_neg hK, if_neg h4, if_pos (.inl hneg)]
    rw [he]
    rcases h123 with rfl | rfl | rfl
    · exact (cref_neg1 A B W cA cB lo P m gw gt kc Ac rows c who n w h hneg).mono fun e w' ⟨h1, h2, h3⟩ => ⟨h1, h2, rows, h3⟩
    · exact (cref_neg2 A B W cA cB lo P m gw gt kc Ac rows c who n w h hneg).mono fun e w' ⟨h1, h2, h3⟩ => ⟨h1, h2, rows, h3⟩
    · exact (cref_neg3 A B W cA cB lo P m gw gt kc Ac rows c who n w h hneg).mono fun e w' ⟨h1, h2, h3⟩ => ⟨h1, h2, rows, h3⟩
  obtain ⟨s, rfl⟩ := Int.eq_ofNat_of_zero_le (show 0 ≤ who by omega)
  by_cases hbig : (((if K = 3 then svs.length else ws.length : Nat) : Int) ≤ (s : Int))
  · have he : chgF ws svs c (K, (s : Int), n) = (c, 2) := by
      unfold chgF
      rw [if_neg hK, if_neg h4, if_pos (.inr hbig)]
    rw [he]
    rcases h123 with rfl | rfl | rfl
    · rw [if_neg (by decide), hW] at hbig
      exact (cref_big1 A B W cA cB lo P m gw gt kc Ac rows c s n w h hbig).mono fun e w' ⟨h1, h2, h3⟩ => ⟨h1, h2, rows, h3⟩
    · rw [if_neg (by decide), hW] at hbig
      exact (cref_big2 A B W cA cB lo P m gw gt kc Ac rows c s n w h hbig).mono fun e w' ⟨h1, h2, h3⟩ => ⟨h1, h2, rows, h3⟩
    · rw [if_pos rfl, hM] at hbig
      exact (cref_big3 A B W cA cB lo P m gw gt kc Ac rows c s n w h hbig).mono fun e w' ⟨h1, h2, h3⟩ => ⟨h1, h2, rows, h3⟩
  have harg : ¬((s : Int) < 0 ∨ (((if K = 3 then svs.length else ws.length : Nat) : Int) ≤ (s : Int))) := fun e => e.elim hneg hbig
  by_cases h3 : K = 3
  · subst h3
    rw [if_pos rfl, hM] at hbig
    have hs : s < m := by omega
    have he : chgF ws svs c (3, (s : Int), n) = (if n < 0 then (c, 4) else if 12 - othTo c.wants s c.wants.length < n then (c, 1) else ({ c with wants := c.wants.set s n }, 0)) := by
      unfold chgF
      rw [if_neg hK, if_neg h4, if_neg harg, if_pos rfl]
      rfl
    rw [he]
    by_cases hn : n < 0
    · rw [if_pos hn]
      exact (cref_wneg A B W cA cB lo P m gw gt kc Ac rows c s n w h hs hn).mono fun e w' ⟨h1, h2, h3⟩ => ⟨h1, h2, rows, h3⟩
    · rw [if_neg hn]
      refine (cref_want A B W cA cB lo P m gw gt kc Ac rows c s n w h hs hm hn hok.w0 hok.w12).mono fun e w' ⟨h1, h2, h3⟩ => ?_
      by_cases hb : 12 - othTo c.wants s c.wants.length < n
      · have hE : wantE c.wants s n = 1 := by unfold wantE; rw [if_neg hn, if_pos hb]
        unfold wantC at h3
        rw [hE, if_neg (by decide)] at h3
        rw [hE] at h1
        rw [if_pos hb]
        exact ⟨h1, h2, rows, h3⟩
      · have hE : wantE c.wants s n = 0 := by unfold wantE; rw [if_neg hn, if_neg hb]
        unfold wantC at h3
        rw [hE, if_pos rfl] at h3
        rw [hE] at h1
        rw [if_neg hb]
        exact ⟨h1, h2, rows, h3⟩
  · rw [if_neg h3, hW] at hbig
    have hs : s < W := by omega
    have he : chgF ws svs c (K, (s : Int), n) = (if bitB c.inn s = decide (K = 1) then (c, 7) else if K = 1 then ({ c with inn := wOr c.inn (wShl w1 s) }, 0) else ({ c with inn := wBut c.inn (wShl w1 s), tasks := leftF c.tasks s }, 0)) := by
      unfold chgF
      rw [if_neg hK, if_neg h4, if_neg harg, if_neg h3]
      rfl
    rw [he]
    have h12 : K = 1 ∨ K = 2 := by omega
    rcases Bool.eq_false_or_eq_true (bitB c.inn s) with hbit | hbit
    · rcases h12 with rfl | rfl
      · rw [if_pos (by rw [hbit]; rfl)]
        exact (cref_hold1 A B W cA cB lo P m gw gt kc Ac rows c s n w h hs hbit).mono fun e w' ⟨h1, h2, h3⟩ => ⟨h1, h2, rows, h3⟩
      · rw [if_neg (by rw [hbit]; simp), if_neg (by decide)]
        exact cref_leave A B W cA cB lo P m gw gt kc Ac rows c s n w h hs hW6 hm hbit (fun j hj => by rw [rw_len' h.tsk]; have := hok.t12 j; omega)
    · rcases h12 with rfl | rfl
      · rw [if_neg (by rw [hbit]; simp), if_pos rfl]
        exact (cref_join A B W cA cB lo P m gw gt kc Ac rows c s n w h hs hW6 hbit).mono fun e w' ⟨h1, h2, h3⟩ => ⟨h1, h2, rows, h3⟩
      · rw [if_pos (by rw [hbit]; rfl)]
        exact (cref_hold2 A B W cA cB lo P m gw gt kc Ac rows c s n w h hs hbit).mono fun e w' ⟨h1, h2, h3⟩ => ⟨h1, h2, rows, h3⟩
end Go.Proofs.Ytdinknpagklkjaa

/- One change. Conditions: the crew lies in memory; workers and services read as lists. -/
namespace Go.Proofs.Ytdinknpagklkjaa
open Go.RowKit
attribute [local go_sem ↓] w_and w_or w_xor w_andNot w_and1 w_and255 w_xor1 w_or0 w_shl w_shl1 w_shr w_sub w_add w_sub1 w_add1
attribute [local go_sem] w_eq0 w_ne0 w_eq1 w_eq w_ne
attribute [local go_sem] Oper.semAt_some

theorem CrewIn.same {w : World} {lo P m gw gt kc : Nat} {vw vs : Value} {Ac : Option Addr} {rows : List (Sls Int)} {c c' : Cw} (h : CrewIn w lo P vw vs m gw gt Ac kc rows c) (he : c' = c) : CrewIn w lo P vw vs m gw gt Ac kc rows c' := by rw [he]; exact h
theorem CrewIn.join {w : World} {lo P m gw gt kc : Nat} {vw vs : Value} {Ac : Option Addr} {rows : List (Sls Int)} {c : Cw} (h : CrewIn w lo P vw vs m gw gt Ac kc rows c) (x : BitVec 32) : CrewIn (w.setCell ⟨P, 3, none⟩ (.int .u32 (wN x))) lo P vw vs m gw gt Ac kc rows { c with inn := x } := by
  have hk2 := h.blk.put 3 (.int .u32 (wN x))
  have hfar : ∀ {α : Type} {B cc cap : Nat} {e : TypeId} {f : α → List Value} {A : Option Addr} {l : List α}, Own w B e cc f A cap l → e ≠ 92 → Own (w.setCell ⟨P, 3, none⟩ (.int .u32 (wN x))) B e cc f A cap l := fun ho he =>
    ho.far (p := ⟨P, 3, none⟩) (fun e => own_far_blk ho h.blk he e) _
  exact ⟨hk2, hfar h.cod (by decide), hfar h.wnt (by decide), hfar h.tab (by decide), h.tsk, fun j hj => hfar (h.row j hj) (by decide), h.far, h.nw, h.hlo, h.rl, h.wl⟩
theorem rw_len {rows : List (Sls Int)} {t : List (List Int)} (h : rows.map (·.l) = t) (j : Nat) : (rwAt rows j).l = t.getD j [] := by
  subst h
  unfold rwAt
  rw [List.getD_eq_getElem?_getD, List.getD_eq_getElem?_getD, List.getElem?_map]
  cases rows[j]? <;> rfl
set_option maxRecDepth 100000 in
set_option maxHeartbeats 2000000 in
theorem crew_change (A B : Option Addr) (W cA cB lo P m gw gt kc : Nat) (Ac : Option Addr) (rows : List (Sls Int)) (c : Cw) (ws : List Wk) (svs : List (BitVec 32)) (x : Chg) (w : World) (h : CrewIn w lo P (.slice A W cA) (.slice B m cB) m gw gt Ac kc rows c) (hm : m ≤ 12)
    (hW : ws.length = W) (hW6 : W ≤ 6) (hM : svs.length = m) (hgood : ∀ k ∈ ws, 0 ≤ k.1 ∧ k.1 ≤ 12) (hok : CwOk ws svs c) (hws : Els w lo 2 wkcell A ws) (hts : Els w lo 1 wcell B svs) :
    Calls Try.prog 43 #[.pointer (some ⟨P, 0, none⟩), .agg #[.int .i64 x.1, .int .i64 x.2.1, .int .i64 x.2.2]] w fun e w' => e = .returned (.int .i64 (chgF ws svs c x).2) ∧ Below lo w w' ∧ ∃ rows', CrewIn w' lo P (.slice A W cA) (.slice B m cB) m gw gt Ac kc rows' (chgF ws svs c x).1 := by
  obtain ⟨K, who, n⟩ := x
  have hZ := Blk.new w 41 #[.int .i64 K, .int .i64 who, .int .i64 n]
  have h1 := h.alloc (.cells #[.int .i64 K, .int .i64 who, .int .i64 n] 41)
  have hloz : lo ≤ w.heap.size := by have := h.blk.lt; have := h.hlo; omega
  have hb1 := (Below.refl lo w).alloc hloz (.cells #[.int .i64 K, .int .i64 who, .int .i64 n] 41)
  have z0 := hZ.cell 0
  have z1 := hZ.cell 1
  have z2 := hZ.cell 2
  have c0 := h1.blk.cell 0
  have c1 := h1.blk.cell 1
  obtain ⟨V, hV⟩ : ∃ V, V = w.alloc (.cells #[.int .i64 K, .int .i64 who, .int .i64 n] 41) := ⟨_, rfl⟩
  rw [← hV] at h1 hb1
  have hws1 := hws.below hb1
  have hts1 := hts.below hb1
  have H := Lib.hid h1
  have HB := Lib.hid hb1
  have HV := Lib.hid hV
  have HOK := Lib.hid hok
  have HW := Lib.hid hW
  have HM := Lib.hid hM
  have HWS := Lib.hid hws1
  have HTS := Lib.hid hts1
  have HG := Lib.hid hgood
  clear h hZ h1 hb1 hV hok hws hts hws1 hts1 hW hM hgood
  by_cases hlo1 : K < 1
  · have he : chgF ws svs c (K, who, n) = (c, 6) := by
      unfold chgF
      rw [if_pos (.inl hlo1)]
    have h3 : (K == 3) = false := by simp; omega
    rw [he]
    clear he
    go_enter Try.func43, Try.ntmps43
    go_wp2_with fail
    rw [← HV.out]
    go_ret
    exact ⟨ret_i64 rfl, HB.out, rows, H.out⟩
  · by_cases hhi : 4 < K
    · have he : chgF ws svs c (K, who, n) = (c, 6) := by
        unfold chgF
        rw [if_pos (.inr hhi)]
      have h3 : (K == 3) = false := by simp; omega
      rw [he]
      clear he
      go_enter Try.func43, Try.ntmps43
      go_wp2_with fail
      rw [← HV.out]
      go_ret
      exact ⟨ret_i64 rfl, HB.out, rows, H.out⟩
    · have hK : K = 1 ∨ K = 2 ∨ K = 3 ∨ K = 4 := by omega
      clear hlo1 hhi
      rcases hK with rfl | rfl | rfl | rfl
      ·
        by_cases hw0 : who < 0
        · have he : chgF ws svs c (1, who, n) = (c, 2) := by
            unfold chgF
            rw [if_neg (by show ¬((1 : Int) < 1 ∨ (4 : Int) < 1); omega), if_neg (by show ¬((1 : Int) = 4); omega), if_pos (.inl hw0)]
          rw [he]
          clear he
          go_enter Try.func43, Try.ntmps43
          go_wp2_with fail
          rw [← HV.out]
          go_ret
          exact ⟨ret_i64 rfl, HB.out, rows, H.out⟩
        · by_cases hw1 : (W : Int) ≤ who
          · have he : chgF ws svs c (1, who, n) = (c, 2) := by
              unfold chgF
              rw [if_neg (by show ¬((1 : Int) < 1 ∨ (4 : Int) < 1); omega), if_neg (by show ¬((1 : Int) = 4); omega), if_pos (.inr (by rw [if_neg (by show ¬((1 : Int) = 3); omega), HW.out]; exact hw1))]
            rw [he]
            clear he
            go_enter Try.func43, Try.ntmps43
            go_wp2_with fail
            rw [← HV.out]
            go_ret
            exact ⟨ret_i64 rfl, HB.out, rows, H.out⟩
          · obtain ⟨s, rfl⟩ := Int.eq_ofNat_of_zero_le (show 0 ≤ who by omega)
            have hsm : s < W := by omega
            have he0 : ¬(((s : Int) < 0) ∨ (((if (1 : Int) = 3 then svs.length else ws.length : Nat) : Int) ≤ (s : Int))) := by rw [if_neg (by decide), HW.out]; omega
            clear hw0 hw1
            rcases Bool.eq_false_or_eq_true (bitB c.inn s) with hbit | hbit
            ·
              have he : chgF ws svs c (1, (s : Int), n) = (c, 7) := by
                unfold chgF
                rw [if_neg (by show ¬((1 : Int) < 1 ∨ (4 : Int) < 1); omega), if_neg (by show ¬((1 : Int) = 4); omega), if_neg he0, if_neg (by show ¬((1 : Int) = 3); omega), if_pos (by rw [hbit]; rfl)]
              rw [he]
              clear he he0
              have HIN := Lib.hid (crew_in P _ _ _ _ _ c.inn s V.drew H.out.drew.blk)
              rw [hbit] at HIN
              have y0 : V.cell? ⟨w.heap.size, 0, none⟩ = some (.int .i64 1) := by rw [HV.out]; exact z0
              have y1 : V.cell? ⟨w.heap.size, 1, none⟩ = some (.int .i64 s) := by rw [HV.out]; exact z1
              clear hbit
              go_enter Try.func43, Try.ntmps43
              go_wp2_with fail
              rw [← HV.out]
              refine region_plain 8 9 (fun w' => w' = V.drew) (by kernel_rfl) rfl ?_
              refine anyC_reads (by kernel_rfl) [0, 1, 2, 4, 5, 6] ?opa ?oha 3 _ _ _ (by kernel_rfl) ?oka
              case oha => (simp only [List.filterMap_cons, List.filterMap_nil, List.getElem?_toArray, List.getElem?_cons_zero, List.getElem?_cons_succ]; try rfl)
              repeat (
                refine readC_step (v := ?_) rfl (fun w' hw' => ?_) ?_
                rotate_left
                focus (subst hw'; go_simp; try with_reducible rfl)
                go_simp)
              refine readC_nil ?_
              refine anyC_one (i := 3) (by kernel_rfl) rfl rfl (.inr rfl) ?_
              go_simp
              refine HIN.out.mono ?_
              rintro e w2 ⟨rfl, rfl⟩
              refine anyC_one (i := 7) (by kernel_rfl) rfl rfl (.inr rfl) ?_
              go_simp
              refine anyC_one (i := 8) (by kernel_rfl) rfl rfl (.inr rfl) ?_
              go_simp
              refine anyC_end (by kernel_rfl) (.inl rfl) ?_
              go_wp2_with fail
              go_ret
              exact ⟨ret_i64 rfl, HB.out.drew, rows, H.out.drew⟩
            ·
              have he : chgF ws svs c (1, (s : Int), n) = ({ c with inn := wOr c.inn (wShl w1 s) }, 0) := by
                unfold chgF
                rw [if_neg (by show ¬((1 : Int) < 1 ∨ (4 : Int) < 1); omega), if_neg (by show ¬((1 : Int) = 4); omega), if_neg he0, if_neg (by show ¬((1 : Int) = 3); omega), if_neg (by rw [hbit]; simp), if_pos rfl]
                simp only [Int.toNat_natCast]
              rw [he]
              clear he he0
              have HIN := Lib.hid (crew_in P _ _ _ _ _ c.inn s V.drew H.out.drew.blk)
              rw [hbit] at HIN
              have y0 : V.cell? ⟨w.heap.size, 0, none⟩ = some (.int .i64 1) := by rw [HV.out]; exact z0
              have y1 : V.cell? ⟨w.heap.size, 1, none⟩ = some (.int .i64 s) := by rw [HV.out]; exact z1
              clear hbit
              go_enter Try.func43, Try.ntmps43
              go_wp2_with fail
              rw [← HV.out]
              refine region_plain 8 9 (fun w' => w' = V.drew) (by kernel_rfl) rfl ?_
              refine anyC_reads (by kernel_rfl) [0, 1, 2, 4, 5, 6] ?opb ?ohb 3 _ _ _ (by kernel_rfl) ?okb
              case ohb => (simp only [List.filterMap_cons, List.filterMap_nil, List.getElem?_toArray, List.getElem?_cons_zero, List.getElem?_cons_succ]; try rfl)
              repeat (
                refine readC_step (v := ?_) rfl (fun w' hw' => ?_) ?_
                rotate_left
                focus (subst hw'; go_simp; try with_reducible rfl)
                go_simp)
              refine readC_nil ?_
              refine anyC_one (i := 3) (by kernel_rfl) rfl rfl (.inr rfl) ?_
              go_simp
              refine HIN.out.mono ?_
              rintro e w2 ⟨rfl, rfl⟩
              refine anyC_one (i := 7) (by kernel_rfl) rfl rfl (.inr rfl) ?_
              go_simp
              refine anyC_one (i := 8) (by kernel_rfl) rfl rfl (.inr rfl) ?_
              go_simp
              refine anyC_end (by kernel_rfl) (.inl rfl) ?_
              go_wp2_with fail
              have hk3 := H.out.blk.cell 3
              have hf3 := H.out.blk.frozen 3
              have hs0 : (0 : Int) ≤ (s : Int) := by omega
              refine region_plain 12 13 (fun w' => w' = V.drew.drew) (by kernel_rfl) rfl ?_
              refine anyC_reads (by kernel_rfl) [0, 1, 2, 3, 4, 5, 6, 7, 8, 9, 10, 11] ?opj ?ohj 1 _ _ _ (by kernel_rfl) ?okj
              case ohj => (simp only [List.filterMap_cons, List.filterMap_nil, List.getElem?_toArray, List.getElem?_cons_zero, List.getElem?_cons_succ]; try rfl)
              repeat (
                refine readC_step (v := ?_) rfl (fun w' hw' => ?_) ?_
                rotate_left
                focus (subst hw'; go_simp; try with_reducible rfl)
                go_simp)
              refine readC_nil ?_
              refine anyC_one (i := 12) (by kernel_rfl) rfl rfl (.inr rfl) ?_
              go_simp
              refine anyC_end (by kernel_rfl) (.inl rfl) ?_
              go_wp2_with fail
              go_ret
              have hlP := H.out.hlo
              exact ⟨ret_i64 rfl, ((HB.out.setCell (p := ⟨P, 3, none⟩) hlP _).drew).drew, rows, ((H.out.join _).drew).drew⟩
      ·
        by_cases hw0 : who < 0
        · have he : chgF ws svs c (2, who, n) = (c, 2) := by
            unfold chgF
            rw [if_neg (by show ¬((2 : Int) < 1 ∨ (4 : Int) < 2); omega), if_neg (by show ¬((2 : Int) = 4); omega), if_pos (.inl hw0)]
          rw [he]
          clear he
          go_enter Try.func43, Try.ntmps43
          go_wp2_with fail
          rw [← HV.out]
          go_ret
          exact ⟨ret_i64 rfl, HB.out, rows, H.out⟩
        · by_cases hw1 : (W : Int) ≤ who
          · have he : chgF ws svs c (2, who, n) = (c, 2) := by
              unfold chgF
              rw [if_neg (by show ¬((2 : Int) < 1 ∨ (4 : Int) < 2); omega), if_neg (by show ¬((2 : Int) = 4); omega), if_pos (.inr (by rw [if_neg (by show ¬((2 : Int) = 3); omega), HW.out]; exact hw1))]
            rw [he]
            clear he
            go_enter Try.func43, Try.ntmps43
            go_wp2_with fail
            rw [← HV.out]
            go_ret
            exact ⟨ret_i64 rfl, HB.out, rows, H.out⟩
          · obtain ⟨s, rfl⟩ := Int.eq_ofNat_of_zero_le (show 0 ≤ who by omega)
            have hsm : s < W := by omega
            have he0 : ¬(((s : Int) < 0) ∨ (((if (2 : Int) = 3 then svs.length else ws.length : Nat) : Int) ≤ (s : Int))) := by rw [if_neg (by decide), HW.out]; omega
            clear hw0 hw1
            rcases Bool.eq_false_or_eq_true (bitB c.inn s) with hbit | hbit
            ·
              have he : chgF ws svs c (2, (s : Int), n) = (⟨c.codes, wBut c.inn (wShl w1 s), c.wants, leftF c.tasks s⟩, 0) := by
                unfold chgF
                rw [if_neg (by show ¬((2 : Int) < 1 ∨ (4 : Int) < 2); omega), if_neg (by show ¬((2 : Int) = 4); omega), if_neg he0, if_neg (by show ¬((2 : Int) = 3); omega), if_neg (by rw [hbit]; simp), if_neg (by show ¬((2 : Int) = 1); omega)]
                simp only [Int.toNat_natCast]
              rw [he]
              clear he he0
              have HIN := Lib.hid (crew_in P _ _ _ _ _ c.inn s V.drew H.out.drew.blk)
              rw [hbit] at HIN
              have y0 : V.cell? ⟨w.heap.size, 0, none⟩ = some (.int .i64 2) := by rw [HV.out]; exact z0
              have y1 : V.cell? ⟨w.heap.size, 1, none⟩ = some (.int .i64 s) := by rw [HV.out]; exact z1
              clear hbit
              go_enter Try.func43, Try.ntmps43
              go_wp2_with fail
              rw [← HV.out]
              refine region_plain 8 9 (fun w' => w' = V.drew) (by kernel_rfl) rfl ?_
              refine anyC_reads (by kernel_rfl) [0, 1, 2, 4, 5, 6] ?opc ?ohc 3 _ _ _ (by kernel_rfl) ?okc
              case ohc => (simp only [List.filterMap_cons, List.filterMap_nil, List.getElem?_toArray, List.getElem?_cons_zero, List.getElem?_cons_succ]; try rfl)
              repeat (
                refine readC_step (v := ?_) rfl (fun w' hw' => ?_) ?_
                rotate_left
                focus (subst hw'; go_simp; try with_reducible rfl)
                go_simp)
              refine readC_nil ?_
              refine anyC_one (i := 3) (by kernel_rfl) rfl rfl (.inr rfl) ?_
              go_simp
              refine HIN.out.mono ?_
              rintro e w2 ⟨rfl, rfl⟩
              refine anyC_one (i := 7) (by kernel_rfl) rfl rfl (.inr rfl) ?_
              go_simp
              refine anyC_one (i := 8) (by kernel_rfl) rfl rfl (.inr rfl) ?_
              go_simp
              refine anyC_end (by kernel_rfl) (.inl rfl) ?_
              go_wp2_with fail
              have HT := Lib.hid (crew_leave lo P m gw gt kc _ _ Ac rows c s V.drew H.out.drew hm (fun j hj => by rw [rw_len H.out.tsk]; have := HOK.out.t12 j; omega))
              refine HT.out.mono ?_
              clear HT
              rintro e w3 ⟨⟨v3, rfl⟩, rows3, h3, hb3⟩
              have H3 := Lib.hid h3
              have HB3 := Lib.hid (HB.out.drew.trans hb3)
              clear h3 hb3
              go_wp2_with fail
              go_ret
              exact ⟨ret_i64 rfl, HB3.out, rows3, H3.out⟩
            ·
              have he : chgF ws svs c (2, (s : Int), n) = (c, 7) := by
                unfold chgF
                rw [if_neg (by show ¬((2 : Int) < 1 ∨ (4 : Int) < 2); omega), if_neg (by show ¬((2 : Int) = 4); omega), if_neg he0, if_neg (by show ¬((2 : Int) = 3); omega), if_pos (by rw [hbit]; rfl)]
              rw [he]
              clear he he0
              have HIN := Lib.hid (crew_in P _ _ _ _ _ c.inn s V.drew H.out.drew.blk)
              rw [hbit] at HIN
              have y0 : V.cell? ⟨w.heap.size, 0, none⟩ = some (.int .i64 2) := by rw [HV.out]; exact z0
              have y1 : V.cell? ⟨w.heap.size, 1, none⟩ = some (.int .i64 s) := by rw [HV.out]; exact z1
              clear hbit
              go_enter Try.func43, Try.ntmps43
              go_wp2_with fail
              rw [← HV.out]
              refine region_plain 8 9 (fun w' => w' = V.drew) (by kernel_rfl) rfl ?_
              refine anyC_reads (by kernel_rfl) [0, 1, 2, 4, 5, 6] ?opd ?ohd 3 _ _ _ (by kernel_rfl) ?okd
              case ohd => (simp only [List.filterMap_cons, List.filterMap_nil, List.getElem?_toArray, List.getElem?_cons_zero, List.getElem?_cons_succ]; try rfl)
              repeat (
                refine readC_step (v := ?_) rfl (fun w' hw' => ?_) ?_
                rotate_left
                focus (subst hw'; go_simp; try with_reducible rfl)
                go_simp)
              refine readC_nil ?_
              refine anyC_one (i := 3) (by kernel_rfl) rfl rfl (.inr rfl) ?_
              go_simp
              refine HIN.out.mono ?_
              rintro e w2 ⟨rfl, rfl⟩
              refine anyC_one (i := 7) (by kernel_rfl) rfl rfl (.inr rfl) ?_
              go_simp
              refine anyC_one (i := 8) (by kernel_rfl) rfl rfl (.inr rfl) ?_
              go_simp
              refine anyC_end (by kernel_rfl) (.inl rfl) ?_
              go_wp2_with fail
              go_ret
              exact ⟨ret_i64 rfl, HB.out.drew, rows, H.out.drew⟩
      ·
        by_cases hw0 : who < 0
        · have he : chgF ws svs c (3, who, n) = (c, 2) := by
            unfold chgF
            rw [if_neg (by show ¬((3 : Int) < 1 ∨ (4 : Int) < 3); omega), if_neg (by show ¬((3 : Int) = 4); omega), if_pos (.inl hw0)]
          rw [he]
          clear he
          go_enter Try.func43, Try.ntmps43
          go_wp2_with fail
          rw [← HV.out]
          go_ret
          exact ⟨ret_i64 rfl, HB.out, rows, H.out⟩
        · by_cases hw1 : (m : Int) ≤ who
          · have he : chgF ws svs c (3, who, n) = (c, 2) := by
              unfold chgF
              rw [if_neg (by show ¬((3 : Int) < 1 ∨ (4 : Int) < 3); omega), if_neg (by show ¬((3 : Int) = 4); omega), if_pos (.inr (by rw [if_pos rfl, HM.out]; exact hw1))]
            rw [he]
            clear he
            go_enter Try.func43, Try.ntmps43
            go_wp2_with fail
            rw [← HV.out]
            go_ret
            exact ⟨ret_i64 rfl, HB.out, rows, H.out⟩
          · obtain ⟨s, rfl⟩ := Int.eq_ofNat_of_zero_le (show 0 ≤ who by omega)
            have hsm : s < m := by omega
            have he0 : ¬(((s : Int) < 0) ∨ (((if (3 : Int) = 3 then svs.length else ws.length : Nat) : Int) ≤ (s : Int))) := by rw [if_pos rfl, HM.out]; omega
            clear hw0 hw1
            have he : chgF ws svs c (3, (s : Int), n) = (wantC c s n, wantE c.wants s n) := by
              unfold chgF
              rw [if_neg (by show ¬((3 : Int) < 1 ∨ (4 : Int) < 3); omega), if_neg (by show ¬((3 : Int) = 4); omega), if_neg he0, if_pos rfl]
              unfold wantC wantE
              simp only [Int.toNat_natCast]
              by_cases h1 : n < 0
              · rw [if_pos h1, if_pos h1, if_neg (by decide)]
              · rw [if_neg h1, if_neg h1]
                by_cases h2 : 12 - othTo c.wants s c.wants.length < n
                · rw [if_pos h2, if_pos h2, if_neg (by decide)]
                · rw [if_neg h2, if_neg h2, if_pos rfl]
            rw [he]
            clear he he0
            have HT := Lib.hid (crew_want lo P m gw gt kc _ _ Ac rows c s n V H.out HOK.out.w0 HOK.out.w12 hsm hm)
            go_enter Try.func43, Try.ntmps43
            go_wp2_with fail
            rw [← HV.out]
            refine HT.out.mono ?_
            clear HT
            rintro e w2 ⟨rfl, h2, hb2⟩
            have H2 := Lib.hid h2
            have HB2 := Lib.hid (HB.out.trans hb2)
            clear h2 hb2
            go_wp2_with fail
            go_ret
            exact ⟨rfl, HB2.out, rows, H2.out⟩
      · have he : chgF ws svs c (4, who, n) = ({ c with tasks := tickF ws svs c.inn c.wants }, 0) := by
          unfold chgF
          rw [if_neg (by show ¬((4 : Int) < 1 ∨ (4 : Int) < 4); omega), if_pos rfl]
        rw [he]
        clear he
        have HT := Lib.hid (crew_tick A B W cA cB lo P m gw gt kc Ac rows c ws svs V H.out hm HW.out hW6 HM.out HG.out HOK.out.w0 HOK.out.w12 HWS.out HTS.out)
        go_enter Try.func43, Try.ntmps43
        go_wp2_with fail
        rw [← HV.out]
        refine HT.out.mono ?_
        clear HT
        rintro e w2 ⟨⟨v2, rfl⟩, rows2, h2, hb2⟩
        have H2 := Lib.hid h2
        have HB2 := Lib.hid (HB.out.trans hb2)
        clear h2 hb2
        go_wp2_with fail
        go_ret
        exact ⟨ret_i64 rfl, HB2.out, rows2, H2.out⟩
end Go.Proofs.Ytdinknpagklkjaa
