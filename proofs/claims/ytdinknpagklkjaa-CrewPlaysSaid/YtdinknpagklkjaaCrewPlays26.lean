/- The reference's comparisons answer true of two slices that read as the same list. Conditions: both read so. -/
import Derived.Test.YtdinknpagklkjaaProg
import Derived.Test.YtdinknpagklkjaaCrewPlays2
import Derived.Test.YtdinknpagklkjaaCrewPlays16
import Derived.BigQuiet
import Derived.Test.YtdinknpagklkjaaCrewPlays24
import Derived.Test.YtdinknpagklkjaaCrewPlays19
namespace Go.Proofs.Ytdinknpagklkjaa
open Go.RowKit
attribute [local go_sem] w_eq0 w_ne0 w_eq1 w_eq w_ne


set_option maxRecDepth 100000 in
theorem Ints_same (A A' : Option Addr) (n c c' : Nat) (l : List (Int)) (B B' : Nat) (w : World) (hl : l.length = n) (hn : n ≤ maxLen) (hr : Els w B 1 (fun a => [.int .i64 a]) A l) (hr' : Els w B' 1 (fun a => [.int .i64 a]) A' l) :
    Calls Try.prog 19 #[.slice A n c, .slice A' n c'] w fun e w' => e = .returned (.bool true) ∧ ∃ m, w' = w.drewN m := by
  unfold maxLen at hn
  have HL := Lib.hid hl
  clear hl
  go_enter Try.func19, Try.ntmps19
  go_wp2_with fail
  go_loopw [5] (fun i wr => ∃ k m : Nat, k ≤ n ∧ i = .int .i64 k ∧ wr = w.drewN m) (fun i _ => n - (intOf i).toNat)
  case atStart => exact ⟨0, 0, by omega, rfl, rfl⟩
  case round =>
    obtain ⟨k, m, hk, rfl, rfl⟩ := hrel
    by_cases hlt : k < n
    · have hkl : k < l.length := by rw [HL.out]; exact hlt
      obtain ⟨b, off, rfl, _, g0⟩ := hr.at1 hkl
      obtain ⟨b', off', rfl, _, g1⟩ := hr'.at1 hkl
      generalize l[k] = x at g0 g1
      clear hr hr'
      have hx : (x != x) = false := by simp
      go_wp2_with fail
      go_quiet (fail)
      go_wp2_with fail
      refine ⟨⟨k + 1, m + nq, by omega, by go_num, by first | rfl | rw [World.drewN_drewN]⟩, by simp [intOf]; omega⟩
    · obtain rfl : k = n := by omega
      go_wp2_with fail
      go_ret
      exact ⟨rfl, m, rfl⟩


end Go.Proofs.Ytdinknpagklkjaa

/- The comparison of two lists of lists that hold the same. Conditions: both lists. -/
namespace Go.Proofs.Ytdinknpagklkjaa
open Go.RowKit

set_option maxRecDepth 100000 in
set_option maxHeartbeats 1000000 in
theorem Lists_rowI (N : Nat) (A A' : Option Addr) (c c' B B' : Nat) (s s' : List (Sls Int)) (w : World) (hs : s.length = N) (hs' : s'.length = N) (hN : N ≤ 43046721) (h : Els w B 1 (fun t : Sls Int => [t.val]) A s) (h' : Els w B' 1 (fun t : Sls Int => [t.val]) A' s') (hr : ∀ t ∈ s, RowI w t) (hr' : ∀ t ∈ s', RowI w t) (he : s.map (fun t => t.l) = s'.map (fun t => t.l)) (hlen : ∀ t ∈ s, t.l.length ≤ 1000) :
    Calls Try.prog 45 #[.slice A N c, .slice A' N c'] w fun e w' => e = .returned (.bool true) ∧ ∃ m, w' = w.drewN m := by
  have HM := Lib.hid h
  have HM' := Lib.hid h'
  have HR := Lib.hid hr
  have HR' := Lib.hid hr'
  have HE := Lib.hid he
  have HLEN := Lib.hid hlen
  have HP := Lib.hid hs
  have HP' := Lib.hid hs'
  clear h h' he hs hs' hr hr' hlen
  go_enter Try.func45, Try.ntmps45
  go_wp2_with fail
  go_loopw [5] (fun i wr => ∃ k m : Nat, k ≤ N ∧ i = .int .i64 k ∧ wr = w.drewN m) (fun i _ => N - (intOf i).toNat)
  case atStart => exact ⟨0, 0, by omega, rfl, rfl⟩
  case round =>
    obtain ⟨k, m, hk, rfl, rfl⟩ := hrel
    by_cases hlt : k < N
    · have hkl : k < s.length := by rw [HP.out]; exact hlt
      have hkl' : k < s'.length := by rw [HP'.out]; exact hlt
      obtain ⟨b1, o1, hA1, _, e1⟩ := HM.out.at1 (f := fun t : Sls Int => t.val) hkl
      obtain ⟨b2, o2, hA2, _, e2⟩ := HM'.out.at1 (f := fun t : Sls Int => t.val) hkl'
      have hl : s'[k].l = s[k].l := by
        have := congrArg (fun l => l[k]?) HE.out
        simp only [List.getElem?_map, List.getElem?_eq_getElem hkl, List.getElem?_eq_getElem hkl', Option.map_some, Option.some.injEq] at this
        exact this.symm
      have r1 := HR.out s[k] (List.getElem_mem hkl)
      have r2 := HR'.out s'[k] (List.getElem_mem hkl')
      have hln := HLEN.out s[k] (List.getElem_mem hkl)
      obtain ⟨t, ht⟩ : ∃ t, t = s[k] := ⟨_, rfl⟩
      obtain ⟨t', ht'⟩ : ∃ t', t' = s'[k] := ⟨_, rfl⟩
      rw [← ht] at e1 hl r1 hln
      rw [← ht'] at e2 hl r2
      obtain ⟨tA, tc, tl⟩ := t
      obtain ⟨tA', tc', tl'⟩ := t'
      simp only at hl e1 e2 hln
      subst hl
      have HI : Hid (∀ q, Calls Try.prog 19 #[.slice tA tl'.length tc, .slice tA' tl'.length tc'] (w.drewN q) fun e w' => e = .returned (.bool true) ∧ ∃ m, w' = (w.drewN q).drewN m) := Lib.hid (fun q =>
        Ints_same tA tA' tl'.length tc tc' tl' w.heap.size w.heap.size (w.drewN q) rfl (by unfold maxLen; omega) (r1.els.drewN q) (r2.els.drewN q))
      subst hA1 hA2
      clear r1 r2 ht ht' hln
      go_wp2_with fail
      go_quiet ((go_at_call 19; have h := HI.out; first | with_reducible exact quietAN (h _) | with_reducible exact quietN (h _)))
      go_wp2_with fail
      refine ⟨⟨k + 1, m + nq, by omega, by go_num, by first | rfl | rw [World.drewN_drewN]⟩, by simp [intOf]; omega⟩
    · obtain rfl : k = N := by omega
      go_wp2_with fail
      go_ret
      exact ⟨rfl, m, rfl⟩
end Go.Proofs.Ytdinknpagklkjaa

/- The crew that was played, to be read; may a script be; has an answer all its parts; are two answers the same. Conditions: the parts read as lists. -/
namespace Go.Proofs.Ytdinknpagklkjaa
open Go.RowKit
attribute [local go_sem] Oper.semAt_some

structure CrewR (w : World) (m gw gt : Nat) (Ac : Option Addr) (rows : List (Sls Int)) (c : Cw) : Prop where
  cod : Els w w.heap.size 1 icell Ac c.codes
  wnt : Els w w.heap.size 1 icell (some ⟨gw, 0, none⟩) c.wants
  tab : Els w w.heap.size 1 slcell (some ⟨gt, 0, none⟩) rows
  row : ∀ s ∈ rows, RowI w s
  tsk : rows.map (·.l) = c.tasks
  rl : rows.length = m
  wl : c.wants.length = m
theorem CrewIn.read {w : World} {lo P m gw gt kc : Nat} {vw vs : Value} {Ac : Option Addr} {rows : List (Sls Int)} {c : Cw} (h : CrewIn w lo P vw vs m gw gt Ac kc rows c) : CrewR w m gw gt Ac rows c :=
  ⟨h.cod.els, h.wnt.els, h.tab.els, fun s hs => by
    obtain ⟨j, hj, rfl⟩ := List.mem_iff_getElem.1 hs
    have := RowI.of_own (h.row j (by rw [← h.rl]; exact hj))
    have e : rwAt rows j = rows[j] := getD_at rows j hj _
    rw [e] at this
    exact this, h.tsk, h.rl, h.wl⟩
theorem CrewR.below {w w' : World} {B m gw gt : Nat} {Ac : Option Addr} {rows : List (Sls Int)} {c : Cw} (h : CrewR w m gw gt Ac rows c) (hb : Below B w w') (hB : w.heap.size ≤ B) : CrewR w' m gw gt Ac rows c :=
  ⟨(h.cod.below (hb.mono hB)).more hb.size, (h.wnt.below (hb.mono hB)).more hb.size, (h.tab.below (hb.mono hB)).more hb.size, fun s hs => (h.row s hs).below hb hB, h.tsk, h.rl, h.wl⟩
theorem CrewR.alloc {w : World} {m gw gt : Nat} {Ac : Option Addr} {rows : List (Sls Int)} {c : Cw} (h : CrewR w m gw gt Ac rows c) (o : Obj) : CrewR (w.alloc o) m gw gt Ac rows c := h.below ((Below.refl _ w).alloc (Nat.le_refl _) o) (Nat.le_refl _)
theorem CrewR.drewN {w : World} {m gw gt : Nat} {Ac : Option Addr} {rows : List (Sls Int)} {c : Cw} (h : CrewR w m gw gt Ac rows c) (n : Nat) : CrewR (w.drewN n) m gw gt Ac rows c := ⟨h.cod.drewN n, h.wnt.drewN n, h.tab.drewN n, fun s hs => h.row s hs, h.tsk, h.rl, h.wl⟩
theorem play_iff {ws : List Wk} {m L : Nat} : (playE ws m L = 0) ↔ (placeCheck ws m = 0 ∧ L ≤ 64) := by
  unfold playE
  by_cases h : placeCheck ws m = 0
  · rw [if_neg (by omega)]
    split <;> omega
  · rw [if_pos h]
    omega
theorem top_may (A B C : Option Addr) (W cA m cB L cC : Nat) (ws : List Wk) (w : World) (hW : ws.length = W) (hWm : W ≤ maxLen) (hmm : m ≤ maxLen) (hLm : L ≤ maxLen) (hws : Els w w.heap.size 2 wkcell A ws) :
    Calls Try.prog 13 #[.slice A W cA, .slice B m cB, .slice C L cC] w fun e w' => e = .returned (.bool (playE ws m L == 0)) ∧ Below w.heap.size w w' := by
  have HE := Lib.hid (ref_PlaceCheck A B W cA m cB ws w hW hWm hws hmm)
  have hiff := @play_iff ws m L
  clear hW hws
  unfold maxLen at hWm hmm hLm
  by_cases hx : placeCheck ws m = 0
  · rw [hx] at HE
    by_cases h64 : L ≤ 64
    · have hp : (playE ws m L == 0) = true := by simpa using hiff.2 ⟨hx, h64⟩
      rw [hp]
      have hd : decide ((L : Int) ≤ 64) = true := decide_eq_true (by omega)
      clear hp hiff hx
      go_enter Try.func13, Try.ntmps13
      go_wp2_with fail
      refine HE.out.mono ?_
      clear HE
      rintro e v1 ⟨rfl, hb1⟩
      go_wp2_with fail
      go_ret
      exact ⟨ret_bool rfl, hb1⟩
    · have hp : (playE ws m L == 0) = false := by
        simp only [beq_eq_false_iff_ne, ne_eq]
        intro h
        exact h64 (hiff.1 h).2
      rw [hp]
      clear hp hiff hx
      have hd : decide ((L : Int) ≤ 64) = false := decide_eq_false (by omega)
      go_enter Try.func13, Try.ntmps13
      go_wp2_with fail
      refine HE.out.mono ?_
      clear HE
      rintro e v1 ⟨rfl, hb1⟩
      go_wp2_with fail
      go_ret
      exact ⟨ret_bool rfl, hb1⟩
  · have hp : (playE ws m L == 0) = false := by
      simp only [beq_eq_false_iff_ne, ne_eq]
      intro h
      exact hx (hiff.1 h).1
    rw [hp]
    have h1 : (placeCheck ws m == 0) = false := by simpa using hx
    generalize placeCheck ws m = x at HE h1 hx
    clear hp hiff hx
    go_enter Try.func13, Try.ntmps13
    go_wp2_with fail
    refine HE.out.mono ?_
    clear HE
    rintro e v1 ⟨rfl, hb1⟩
    go_wp2_with fail
    go_ret
    exact ⟨ret_bool rfl, hb1⟩
theorem top_whole (B C Ac Aw At : Option Addr) (m cB L cC kc cw ct : Nat) (x : Int) (w : World) :
    Calls Try.prog 14 #[.agg #[.slice Ac L kc, .int .u32 x, .slice Aw m cw, .slice At m ct], .slice B m cB, .slice C L cC] w fun e w' => e = .returned (.bool true) ∧ Below w.heap.size w w' := by
  have hk := Blk.new w 30 #[.slice Ac L kc, .int .u32 x, .slice Aw m cw, .slice At m ct]
  have c0 := hk.cell 0
  have c2 := hk.cell 2
  have c3 := hk.cell 3
  have HB := Lib.hid ((Below.refl w.heap.size w).alloc (Nat.le_refl _) (.cells #[.slice Ac L kc, .int .u32 x, .slice Aw m cw, .slice At m ct] 30))
  clear hk
  go_enter Try.func14, Try.ntmps14
  go_wp2_with fail
  go_ret
  exact ⟨ret_bool (by simp), HB.out⟩
set_option maxRecDepth 100000 in
theorem Codes_same (A A' : Option Addr) (n c c' : Nat) (l : List (Int)) (B B' : Nat) (w : World) (hl : l.length = n) (hn : n ≤ maxLen) (hr : Els w B 1 (fun a => [.int .i64 a]) A l) (hr' : Els w B' 1 (fun a => [.int .i64 a]) A' l) :
    Calls Try.prog 44 #[.slice A n c, .slice A' n c'] w fun e w' => e = .returned (.bool true) ∧ ∃ m, w' = w.drewN m := by
  unfold maxLen at hn
  have HL := Lib.hid hl
  clear hl
  go_enter Try.func44, Try.ntmps44
  go_wp2_with fail
  go_loopw [5] (fun i wr => ∃ k m : Nat, k ≤ n ∧ i = .int .i64 k ∧ wr = w.drewN m) (fun i _ => n - (intOf i).toNat)
  case atStart => exact ⟨0, 0, by omega, rfl, rfl⟩
  case round =>
    obtain ⟨k, m, hk, rfl, rfl⟩ := hrel
    by_cases hlt : k < n
    · have hkl : k < l.length := by rw [HL.out]; exact hlt
      obtain ⟨b, off, rfl, _, g0⟩ := hr.at1 hkl
      obtain ⟨b', off', rfl, _, g1⟩ := hr'.at1 hkl
      generalize l[k] = x at g0 g1
      clear hr hr'
      have hx : (x != x) = false := by simp
      go_wp2_with fail
      go_quiet (fail)
      go_wp2_with fail
      refine ⟨⟨k + 1, m + nq, by omega, by go_num, by first | rfl | rw [World.drewN_drewN]⟩, by simp [intOf]; omega⟩
    · obtain rfl : k = n := by omega
      go_wp2_with fail
      go_ret
      exact ⟨rfl, m, rfl⟩
set_option maxRecDepth 100000 in
set_option maxHeartbeats 1000000 in
theorem Crews_same (Ac : Option Addr) (L kc kc' m gw gt gw' gt' : Nat) (Ac' : Option Addr) (rows rows' : List (Sls Int)) (c c' : Cw) (w : World) (hL : c.codes.length = L) (hL64 : L ≤ 65536) (hm : m ≤ 12) (hc : Els w w.heap.size 1 icell Ac c.codes) (hc' : Els w w.heap.size 1 icell Ac' c.codes) (h : CrewR w m gw gt Ac rows c) (h' : CrewR w m gw' gt' Ac' rows' c') (hi : c.inn = c'.inn) (hwn : c.wants = c'.wants) (ht : c.tasks = c'.tasks) (hlen : ∀ s ∈ rows, s.l.length ≤ 1000) :
    Calls Try.prog 18 #[.agg #[.slice Ac L kc, .int .u32 (wN c.inn), .slice (some ⟨gw, 0, none⟩) m m, .slice (some ⟨gt, 0, none⟩) m m], .agg #[.slice Ac' L kc', .int .u32 (wN c'.inn), .slice (some ⟨gw', 0, none⟩) m m, .slice (some ⟨gt', 0, none⟩) m m]] w fun e w' => e = .returned (.bool true) ∧ Below w.heap.size w w' := by
  rw [show wN c'.inn = wN c.inn by rw [hi]]
  have hk1 := Blk.new w 30 #[.slice Ac L kc, .int .u32 (wN c.inn), .slice (some ⟨gw, 0, none⟩) m m, .slice (some ⟨gt, 0, none⟩) m m]
  have hb1 := (Below.refl w.heap.size w).alloc (Nat.le_refl _) (.cells #[.slice Ac L kc, .int .u32 (wN c.inn), .slice (some ⟨gw, 0, none⟩) m m, .slice (some ⟨gt, 0, none⟩) m m] 30)
  obtain ⟨S, hS⟩ : ∃ S, S = w.heap.size := ⟨_, rfl⟩
  have hz1 : (w.alloc (.cells #[.slice Ac L kc, .int .u32 (wN c.inn), .slice (some ⟨gw, 0, none⟩) m m, .slice (some ⟨gt, 0, none⟩) m m] 30)).heap.size = S + 1 := by rw [size_alloc', hS]
  obtain ⟨V1, hV1⟩ : ∃ V1, V1 = w.alloc (.cells #[.slice Ac L kc, .int .u32 (wN c.inn), .slice (some ⟨gw, 0, none⟩) m m, .slice (some ⟨gt, 0, none⟩) m m] 30) := ⟨_, rfl⟩
  rw [← hV1] at hk1 hb1 hz1
  have hk2 := Blk.new V1 30 #[.slice Ac' L kc', .int .u32 (wN c.inn), .slice (some ⟨gw', 0, none⟩) m m, .slice (some ⟨gt', 0, none⟩) m m]
  have hk12 := hk1.alloc (.cells #[.slice Ac' L kc', .int .u32 (wN c.inn), .slice (some ⟨gw', 0, none⟩) m m, .slice (some ⟨gt', 0, none⟩) m m] 30)
  have hb2 := hb1.alloc (by rw [hz1]; omega) (.cells #[.slice Ac' L kc', .int .u32 (wN c.inn), .slice (some ⟨gw', 0, none⟩) m m, .slice (some ⟨gt', 0, none⟩) m m] 30)
  obtain ⟨V2, hV2⟩ : ∃ V2, V2 = V1.alloc (.cells #[.slice Ac' L kc', .int .u32 (wN c.inn), .slice (some ⟨gw', 0, none⟩) m m, .slice (some ⟨gt', 0, none⟩) m m] 30) := ⟨_, rfl⟩
  rw [← hV2] at hk2 hk12 hb2
  rw [hz1] at hk2
  rw [← hS] at hk12
  have h2 := h.below hb2 (Nat.le_refl _)
  have h2' := h'.below hb2 (Nat.le_refl _)
  have hwl := h2.wl
  have HCODES : Hid (∀ q, Calls Try.prog 44 #[.slice Ac L kc, .slice Ac' L kc'] (V2.drewN q) fun e w' => e = .returned (.bool true) ∧ ∃ m, w' = (V2.drewN q).drewN m) := Lib.hid (fun q =>
    Codes_same Ac Ac' L kc kc' c.codes V2.heap.size V2.heap.size (V2.drewN q) hL (by unfold maxLen; omega) (((hc.below hb2).more hb2.size).drewN q) (((hc'.below hb2).more hb2.size).drewN q))
  have HINTS : Hid (∀ q, Calls Try.prog 19 #[.slice (some ⟨gw, 0, none⟩) m m, .slice (some ⟨gw', 0, none⟩) m m] (V2.drewN q) fun e w' => e = .returned (.bool true) ∧ ∃ m, w' = (V2.drewN q).drewN m) := Lib.hid (fun q =>
    Ints_same _ _ m m m c.wants V2.heap.size V2.heap.size (V2.drewN q) hwl (by unfold maxLen; omega) (h2.wnt.drewN q) (by have := h2'.wnt.drewN q; rw [← hwn] at this; exact this))
  have HLISTS : Hid (∀ q, Calls Try.prog 45 #[.slice (some ⟨gt, 0, none⟩) m m, .slice (some ⟨gt', 0, none⟩) m m] (V2.drewN q) fun e w' => e = .returned (.bool true) ∧ ∃ m, w' = (V2.drewN q).drewN m) := Lib.hid (fun q =>
    Lists_rowI m _ _ m m V2.heap.size V2.heap.size rows rows' (V2.drewN q) h2.rl h2'.rl (by omega) (h2.tab.drewN q) (h2'.tab.drewN q) (fun s hs => h2.row s hs) (fun s hs => h2'.row s hs) (by rw [h2.tsk, h2'.tsk, ht]) hlen)
  have HB2 := Lib.hid hb2
  have HK1 := Lib.hid hk12
  have HK2 := Lib.hid hk2
  have HV1 := Lib.hid hV1
  have HV2 := Lib.hid hV2
  have HS := Lib.hid hS
  have hz1' : V1.heap.size = S + 1 := hz1
  clear h h' h2 h2' hb1 hb2 hk1 hk12 hk2 hV1 hV2 hS hwl hi hwn ht hlen hc hc' hL hz1
  go_enter Try.func18, Try.ntmps18
  go_wp2_with fail
  rw [← HS.out, ← HV1.out, ← HV2.out]
  refine (show Calls _ _ _ V2 _ from HCODES.out 0).mono ?_
  clear HCODES
  rintro e w3 ⟨rfl, k1, rfl⟩
  have e1 : (V2.drewN 0).drewN k1 = V2.drewN k1 := rfl
  rw [e1]
  have a1 := (HK1.out.drewN k1).cell 1
  have a2 := (HK1.out.drewN k1).cell 2
  have b1 := (HK2.out.drewN k1).cell 1
  have b2 := (HK2.out.drewN k1).cell 2
  have HI2 := Lib.hid (HINTS.out k1)
  have hxx : (wN c.inn == wN c.inn) = true := by simp
  obtain ⟨W3, hW3⟩ : ∃ W3, W3 = V2.drewN k1 := ⟨_, rfl⟩
  rw [← hW3] at a1 a2 b1 b2 HI2 ⊢
  have HW3 := Lib.hid hW3
  clear e1 hW3 HINTS
  go_wp2_with fail
  refine HI2.out.mono ?_
  clear HI2
  rintro e w4 ⟨rfl, k2, rfl⟩
  have e2 : W3.drewN k2 = V2.drewN (k1 + k2) := by rw [HW3.out, World.drewN_drewN]
  rw [e2]
  have a3 := (HK1.out.drewN (k1 + k2)).cell 3
  have b3 := (HK2.out.drewN (k1 + k2)).cell 3
  have HL2 := Lib.hid (HLISTS.out (k1 + k2))
  obtain ⟨W4, hW4⟩ : ∃ W4, W4 = V2.drewN (k1 + k2) := ⟨_, rfl⟩
  rw [← hW4] at a3 b3 HL2 ⊢
  have HB4 : Hid (Below S w W4) := Lib.hid (by rw [hW4, HS.out]; exact below_drewN HB2.out _)
  clear e2 hW4 HLISTS HW3
  go_wp2_with fail
  refine HL2.out.mono ?_
  clear HL2
  rintro e w5 ⟨rfl, k3, rfl⟩
  go_wp2_with fail
  go_ret
  exact ⟨ret_bool rfl, by have := below_drewN HB4.out k3; rw [HS.out] at this; exact this⟩
end Go.Proofs.Ytdinknpagklkjaa

/- Nobody has more tasks than room: what the statement's loops count, in plain Lean; of no service are there more than are wanted. Conditions: none. -/
namespace Go.Proofs.Ytdinknpagklkjaa
open Go.RowKit
attribute [local go_sem] Oper.semAt_some

def preT (tasks : List (List Int)) (s i : Nat) : List Int := (tasks.take s).flatten ++ (tasks.getD s []).take i
theorem preT_zero (tasks : List (List Int)) : preT tasks 0 0 = [] := by simp [preT]
theorem preT_next (tasks : List (List Int)) {s : Nat} (hs : s < tasks.length) : preT tasks s (tasks.getD s []).length = preT tasks (s + 1) 0 := by
  unfold preT
  rw [List.take_length, List.take_succ_eq_append_getElem hs, List.flatten_append, getD_at tasks s hs]
  simp
theorem preT_step (tasks : List (List Int)) {s i : Nat} (hi : i < (tasks.getD s []).length) : preT tasks s (i + 1) = preT tasks s i ++ [(tasks.getD s [])[i]] := by
  unfold preT
  rw [List.take_succ_eq_append_getElem hi, List.append_assoc]
theorem preT_all (tasks : List (List Int)) : preT tasks tasks.length 0 = tasks.flatten := by simp [preT]
def cntL (W : Nat) (p : List Int) : List Int := (List.range W).map fun j : Nat => ((p.count (j : Int) : Nat) : Int)
theorem cntL_nil (W : Nat) : cntL W [] = List.replicate W 0 := by
  unfold cntL
  rw [List.eq_replicate_iff]
  refine ⟨by simp, fun b hb => ?_⟩
  obtain ⟨j, _, rfl⟩ := List.mem_map.1 hb
  rfl
theorem cntL_len (W : Nat) (p : List Int) : (cntL W p).length = W := by simp [cntL]
theorem cntL_at {W : Nat} (p : List Int) {q : Nat} (hq : q < W) : (cntL W p).getD q 0 = ((p.count (q : Int) : Nat) : Int) := by
  rw [getD_at _ q (by rw [cntL_len]; exact hq)]
  simp [cntL]
theorem cntL_step {W : Nat} (p : List Int) {q : Nat} (hq : q < W) : cntL W (p ++ [(q : Int)]) = (cntL W p).set q ((cntL W p).getD q 0 + 1) := by
  apply List.ext_getElem
  · simp [cntL]
  · intro j h1 h2
    rw [List.getElem_set]
    have hj : j < W := by simpa [cntL] using h1
    by_cases h : q = j
    · subst h
      rw [if_pos rfl, cntL_at p hq]
      simp [cntL, List.count_append]
    · rw [if_neg h]
      simp only [cntL, List.getElem_map, List.getElem_range, List.count_append, List.count_cons, List.count_nil]
      have : ¬ (((q : Int) == (j : Int)) = true) := by simp; omega
      rw [if_neg this]
      simp
theorem preT_len {tasks : List (List Int)} (h : ∀ s, (tasks.getD s []).length ≤ 12) {s i : Nat} : (preT tasks s i).length ≤ 12 * (s + 1) := by
  unfold preT
  rw [List.length_append]
  have h1 : ∀ s, (tasks.take s).flatten.length ≤ 12 * s := fun s => by
    induction s with
    | zero => simp
    | succ s ih =>
      rcases Nat.lt_or_ge s tasks.length with hs | hs
      · rw [List.take_succ_eq_append_getElem hs, List.flatten_append, List.length_append]
        have := h s
        rw [getD_at tasks s hs] at this
        simp only [List.flatten_cons, List.flatten_nil, List.append_nil]
        omega
      · rw [List.take_of_length_le (by omega)] at ih ⊢
        omega
  have h2 := h1 s
  have h3 := h s
  rw [List.length_take]
  omega
theorem tick_wanted (ws : List Wk) (svs : List (BitVec 32)) (l : List Chg) (x : Chg) (hx : x.1 = 4) (s : Nat) : ((playF ws svs (l ++ [x])).tasks.getD s []).length ≤ ((playF ws svs (l ++ [x])).wants.getD s 0).toNat := by
  rw [playF_snoc]
  unfold stepF chgF
  rw [if_neg (by omega), if_pos hx]
  exact cutF_len _ _ s
set_option maxRecDepth 100000 in
set_option maxHeartbeats 400000 in
theorem top_wanted (Ac : Option Addr) (L kc m gw gt : Nat) (rows : List (Sls Int)) (c : Cw) (w : World) (hm : m ≤ 12) (h : CrewR w m gw gt Ac rows c) (h12 : ∀ s, (c.tasks.getD s []).length ≤ 12) (h0 : ∀ n ∈ c.wants, 0 ≤ n) (hw : ∀ s, (c.tasks.getD s []).length ≤ (c.wants.getD s 0).toNat) :
    Calls Try.prog 17 #[.agg #[.slice Ac L kc, .int .u32 (wN c.inn), .slice (some ⟨gw, 0, none⟩) m m, .slice (some ⟨gt, 0, none⟩) m m]] w fun e w' => e = .returned (.bool true) ∧ Below w.heap.size w w' := by
  have hk := Blk.new w 30 #[.slice Ac L kc, .int .u32 (wN c.inn), .slice (some ⟨gw, 0, none⟩) m m, .slice (some ⟨gt, 0, none⟩) m m]
  have c2 := hk.cell 2
  have c3 := hk.cell 3
  have hb := (Below.refl w.heap.size w).alloc (Nat.le_refl _) (.cells #[.slice Ac L kc, .int .u32 (wN c.inn), .slice (some ⟨gw, 0, none⟩) m m, .slice (some ⟨gt, 0, none⟩) m m] 30)
  have hr := h.alloc (.cells #[.slice Ac L kc, .int .u32 (wN c.inn), .slice (some ⟨gw, 0, none⟩) m m, .slice (some ⟨gt, 0, none⟩) m m] 30)
  obtain ⟨V, hV⟩ : ∃ V, V = w.alloc (.cells #[.slice Ac L kc, .int .u32 (wN c.inn), .slice (some ⟨gw, 0, none⟩) m m, .slice (some ⟨gt, 0, none⟩) m m] 30) := ⟨_, rfl⟩
  have v2 : V.cell? ⟨w.heap.size, 2, none⟩ = some (.slice (some ⟨gw, 0, none⟩) m m) := by rw [hV]; exact c2
  rw [← hV] at hb hr
  have HB := Lib.hid hb
  have HR := Lib.hid hr
  have HV := Lib.hid hV
  have H12 := Lib.hid h12
  have H0 := Lib.hid h0
  have HW := Lib.hid hw
  clear hk hb hr hV h h12 h0 hw
  go_enter Try.func17, Try.ntmps17
  go_wp2_with fail
  rw [← HV.out]
  go_loop [8] (fun s8 => ∃ k : Nat, k ≤ m ∧ s8 = .int .i64 k) (fun s8 => m - (intOf s8).toNat)
  case atStart => exact ⟨0, Nat.zero_le _, rfl⟩
  case round =>
    obtain ⟨k, hk, rfl⟩ := hrel
    by_cases hkm : k < m
    · have hkr : k < rows.length := by rw [HR.out.rl]; exact hkm
      have hkw : k < c.wants.length := by rw [HR.out.wl]; exact hkm
      obtain ⟨b1, o1, e1, _, r0⟩ := HR.out.tab.at1 (f := fun t : Sls Int => t.val) hkr
      obtain ⟨b2, o2, e2, _, w0'⟩ := HR.out.wnt.at1 (f := fun x : Int => .int .i64 x) hkw
      simp only [Option.some.injEq, Addr.mk.injEq] at e1 e2
      obtain ⟨rfl, rfl, -⟩ := e1
      obtain ⟨rfl, rfl, -⟩ := e2
      rw [Nat.zero_add] at r0 w0'
      have hl : rows[k].l = c.tasks.getD k [] := by
        have := rw_len HR.out.tsk k
        unfold rwAt at this
        rw [getD_at rows k hkr] at this
        exact this
      have hlw := HW.out k
      have hl12 := H12.out k
      have hn0 := H0.out _ (List.getElem_mem hkw)
      rw [← hl] at hlw hl12
      rw [getD_at _ k hkw] at hlw
      generalize rows[k] = s at r0 hlw hl12
      obtain ⟨sA, sc, sl⟩ := s
      generalize c.wants[k] = n at w0' hlw hn0
      simp only at hlw hl12
      have hd : decide (n < (sl.length : Int)) = false := decide_eq_false (by omega)
      clear hl
      go_wp2_with fail
      go_round
      case rel => exact ⟨k + 1, by omega, by go_num⟩
      case measure => simp [intOf]; omega
    · obtain rfl : k = m := by omega
      go_wp2_with fail
      go_ret
      exact ⟨ret_bool rfl, HB.out⟩
end Go.Proofs.Ytdinknpagklkjaa

/- The statement TopRoom: its law's walk. Conditions: workers, services and changes read as lists. -/
namespace Go.Proofs.Ytdinknpagklkjaa
open Go.RowKit
attribute [local go_sem ↓] w_and w_or w_xor w_andNot w_and1 w_and255 w_xor1 w_or0 w_shl w_shl1 w_shr w_sub w_add w_sub1 w_add1
attribute [local go_sem] w_eq0 w_ne0 w_eq1 w_eq w_ne
attribute [local go_sem] Oper.semAt_some

theorem room_nonneg {ws : List Wk} (h : ∀ k ∈ ws, 0 ≤ k.1 ∧ k.1 ≤ 12) (q : Nat) : 0 ≤ (wk ws q).1 := by
  rcases Nat.lt_or_ge q ws.length with hq | hq
  · have : wk ws q ∈ ws := by
      unfold wk
      rw [getD_at ws q hq]
      exact List.getElem_mem hq
    exact (h _ this).1
  · unfold wk
    rw [List.getD_eq_getElem?_getD, List.getElem?_eq_none hq]
    exact Int.le_refl _
theorem play_good {ws : List Wk} {m L : Nat} (h : playE ws m L = 0) : ws.length ≤ 6 ∧ m ≤ 12 ∧ L ≤ 64 ∧ ∀ k ∈ ws, 0 ≤ k.1 ∧ k.1 ≤ 12 := by
  obtain ⟨hx, hL⟩ := play_iff.1 h
  unfold placeCheck at hx
  split at hx
  · omega
  · split at hx
    · omega
    · rename_i h1 h2
      refine ⟨by omega, by omega, hL, fun k hk => ?_⟩
      have := List.any_eq_false.1 (by simpa using h2) k hk
      unfold badRoom at this
      simp at this
      omega
set_option maxRecDepth 100000 in
set_option maxHeartbeats 2000000 in
theorem law_TopRoom (A B C : Option Addr) (W cA m cB L cC : Nat) (ws : List Wk) (svs : List (BitVec 32)) (script : List Chg) (w : World) (hW : ws.length = W) (hM : svs.length = m) (hL : script.length = L) (hWm : W ≤ maxLen) (hmm : m ≤ maxLen) (hLm : L ≤ maxLen) (hws : Els w w.heap.size 2 wkcell A ws) (hts : Els w w.heap.size 1 wcell B svs) (hcs : Els w w.heap.size 3 chcell C script) :
    Calls Try.prog 3 #[.slice A W cA, .slice B m cB, .slice C L cC] w fun e w' => e = .returned (.bool true) ∧ Below w.heap.size w w' := by
  by_cases he : playE ws m L = 0
  · obtain ⟨hW6, hm12, hL64, hgood⟩ := play_good he
    rw [hW] at hW6
    have HPLAY := Lib.hid (crew_Play A B C W cA m cB L cC ws svs script w hW hM hL hws hts hcs he)
    have hok := CwOk.play (svs := svs) (room_nonneg hgood) script
    have hcl := step_codes ws svs script
    rw [hL] at hcl
    have HTICK := Lib.hid (fun (x : Chg) (l : List Chg) (hl : script = l ++ [x]) (hx : x.1 = 4) => by
      have := tick_wanted ws svs l x hx
      rw [← hl] at this
      exact this : ∀ (x : Chg) (l : List Chg), script = l ++ [x] → x.1 = 4 → ∀ s, ((playF ws svs script).tasks.getD s []).length ≤ ((playF ws svs script).wants.getD s 0).toNat)
    obtain ⟨c, hc⟩ : ∃ c, c = playF ws svs script := ⟨_, rfl⟩
    rw [← hc] at HPLAY hok hcl HTICK
    have HMAY := Lib.hid (fun (v : World) (hb : Below w.heap.size w v) => top_may A B C W cA m cB L cC ws v hW hWm hmm hLm ((hws.below hb).more hb.size))
    rw [he] at HMAY
    have HOK := Lib.hid hok
    have HCL := Lib.hid hcl
    have HW := Lib.hid hW
    have HM := Lib.hid hM
    have HL := Lib.hid hL
    have HWS := Lib.hid hws
    have HTS := Lib.hid hts
    have HCS := Lib.hid hcs
    clear hok hcl hc hW hM hL hws hts hcs he hgood
    go_enter Try.func3, Try.ntmps3
    go_wp2_with fail
    refine HPLAY.out.mono ?_
    clear HPLAY
    rintro e w1 ⟨hb1, P, gw, gt, Ac, kc, rows, hcr, rfl⟩
    obtain ⟨S2, hS2⟩ : ∃ S, S = w1.heap.size := ⟨_, rfl⟩
    have hrd := hcr.read
    have hk := Blk.new w1 30 #[.slice Ac L kc, .int .u32 (wN c.inn), .slice (some ⟨gw, 0, none⟩) m m, .slice (some ⟨gt, 0, none⟩) m m]
    have hrd2 := hrd.alloc (.cells #[.slice Ac L kc, .int .u32 (wN c.inn), .slice (some ⟨gw, 0, none⟩) m m, .slice (some ⟨gt, 0, none⟩) m m] 30)
    have hb2 := hb1.alloc hb1.size (.cells #[.slice Ac L kc, .int .u32 (wN c.inn), .slice (some ⟨gw, 0, none⟩) m m, .slice (some ⟨gt, 0, none⟩) m m] 30)
    obtain ⟨V, hV⟩ : ∃ V, V = w1.alloc (.cells #[.slice Ac L kc, .int .u32 (wN c.inn), .slice (some ⟨gw, 0, none⟩) m m, .slice (some ⟨gt, 0, none⟩) m m] 30) := ⟨_, rfl⟩
    rw [← hV] at hk hrd2 hb2
    rw [← hS2] at hk
    have HK := Lib.hid hk
    have HRD := Lib.hid hrd2
    have HB2 := Lib.hid hb2
    have HV := Lib.hid hV
    have HS2 := Lib.hid hS2
    clear hb1 hcr hrd hk hrd2 hb2 hV hS2
    go_wp2_with fail
    rw [← HV.out, ← HS2.out]
    refine (HMAY.out V HB2.out).mono ?_
    clear HMAY
    rintro e w2 ⟨rfl, hb3⟩
    have hk2 := HK.out.below hb3 HK.out.lt
    have hrd3 := HRD.out.below hb3 (Nat.le_refl _)
    have hb3' := HB2.out.trans (hb3.mono HB2.out.size)
    have d0 := hk2.cell 0
    have d1 := hk2.cell 1
    have d2 := hk2.cell 2
    have d3 := hk2.cell 3
    have HWHOLE := Lib.hid (top_whole B C Ac (some ⟨gw, 0, none⟩) (some ⟨gt, 0, none⟩) m cB L cC kc m m (wN c.inn) w2)
    have HK2 := Lib.hid hk2
    have HRD3 := Lib.hid hrd3
    have HB3 := Lib.hid hb3'
    clear hk2 hrd3 hb3' hb3
    go_wp2_with fail
    refine HWHOLE.out.mono ?_
    clear HWHOLE d0 d1 d2 d3
    rintro e w3 ⟨rfl, hb4⟩
    have hk3 := HK2.out.below hb4 HK2.out.lt
    have hrd4 := HRD3.out.below hb4 (Nat.le_refl _)
    have hb4' := HB3.out.trans (hb4.mono HB3.out.size)
    obtain ⟨Y, hY⟩ : ∃ Y, Y = w3.heap.size := ⟨_, rfl⟩
    have HK3 := Lib.hid hk3
    have HRD4 := Lib.hid hrd4
    have HB4 := Lib.hid hb4'
    have HY := Lib.hid hY
    clear hk3 hrd4 hb4' hb4 HK HRD HB2 HK2 HRD3 HB3 hY
    go_wp2_with (at_make; go_loud (refine wpList_make1 rfl _ _ _ rfl w3.heap.size 3 8 (fun x => .int .i64 x) 0 Try.underlying27 (by kernel_rfl) rfl w3 .i64 .i64 W rfl rfl (by omega) (by unfold maxLen; omega) (Nat.le_refl _) ?_; intro v4 hown4 hgrow4; have q3 := (HK3.out.grown hgrow4 (by simp)).cell 3))
    have hb5 := (Below.refl w3.heap.size w3).grown hgrow4 (Nat.le_refl _) (by simp)
    rw [← HY.out] at hown4 hb5 ⊢
    have HO5 : Hid (Own v4 Y 3 1 icell (some ⟨Y, 0, none⟩) W (cntL W (preT c.tasks 0 0))) := Lib.hid (by rw [preT_zero, cntL_nil]; exact hown4)
    have HB5 := Lib.hid hb5
    clear hown4 hgrow4 hb5
    go_loopw [45] (fun s45 wr => ∃ s : Nat, s ≤ m ∧ s45 = .int .i64 s ∧ Below Y w3 wr ∧ Own wr Y 3 1 icell (some ⟨Y, 0, none⟩) W (cntL W (preT c.tasks s 0))) (fun s45 _ => m - (intOf s45).toNat)
    case atStart => exact ⟨0, Nat.zero_le _, rfl, HB5.out, HO5.out⟩
    case round =>
      clear HB5 HO5 q3
      rename World => wr
      obtain ⟨s, hs, rfl, hb, ho⟩ := hrel
      have hrd := HRD4.out.below hb (by rw [HY.out]; exact Nat.le_refl _)
      by_cases hsm : s < m
      · have hsr : s < rows.length := by rw [HRD4.out.rl]; exact hsm
        have hst : s < c.tasks.length := by rw [← HRD4.out.tsk, List.length_map]; exact hsr
        obtain ⟨b1, o1, e1, _, r0⟩ := hrd.tab.at1 (f := fun t : Sls Int => t.val) hsr
        simp only [Option.some.injEq, Addr.mk.injEq] at e1
        obtain ⟨rfl, rfl, -⟩ := e1
        rw [Nat.zero_add] at r0
        have hl : rows[s].l = c.tasks.getD s [] := by
          have := rw_len HRD4.out.tsk s
          unfold rwAt at this
          rw [getD_at rows s hsr] at this
          exact this
        have hrow := HRD4.out.row rows[s] (List.getElem_mem hsr)
        have hl12 := HOK.out.t12 s
        have hnext := preT_next c.tasks hst
        have htk := HOK.out.tk s
        rw [← hl] at hl12 hnext htk
        obtain ⟨rw1, hrw⟩ : ∃ r, r = rows[s] := ⟨_, rfl⟩
        rw [← hrw] at r0 hl hrow hl12 hnext htk
        obtain ⟨sA, sc, sl⟩ := rw1
        simp only at r0 hl hrow hl12 hnext htk
        have hstep : ∀ i (hi : i < sl.length), preT c.tasks s (i + 1) = preT c.tasks s i ++ [sl[i]] := fun i hi => by
          have := preT_step c.tasks (s := s) (i := i) (by rw [← hl]; exact hi)
          simp only [← hl] at this
          exact this
        obtain ⟨n, hn⟩ : ∃ n, n = sl.length := ⟨_, rfl⟩
        have hpl : ∀ i, (preT c.tasks s i).length ≤ 12 * (s + 1) := fun i => preT_len HOK.out.t12
        have HNEXT := Lib.hid hnext
        have HTK := Lib.hid htk
        have HSTEP := Lib.hid hstep
        have HROW := Lib.hid hrow
        have HB := Lib.hid hb
        have HO := Lib.hid ho
        have HPL := Lib.hid hpl
        have HN := Lib.hid hn
        rw [← hn] at hl12
        replace r0 : wr.cell? ⟨gt, s, none⟩ = some (.slice sA n sc) := by rw [hn]; exact r0
        clear hl hnext htk hstep hrow hb ho hrd hrw hpl hn
        go_wp2_with fail
        go_loopw [52] (fun s52 wq => ∃ i : Nat, i ≤ n ∧ s52 = .int .i64 i ∧ Below Y w3 wq ∧ Own wq Y 3 1 icell (some ⟨Y, 0, none⟩) W (cntL W (preT c.tasks s i))) (fun s52 _ => n - (intOf s52).toNat)
        case atStart => exact ⟨0, Nat.zero_le _, rfl, HB.out, HO.out⟩
        case round =>
          clear HB HO r0
          rename World => wq
          obtain ⟨i, hi, rfl, hb, ho⟩ := hrel
          by_cases hin : i < n
          · have hil : i < sl.length := by rw [← HN.out]; exact hin
            have hbw := HB4.out.trans (hb.mono (by rw [HY.out]; exact HB4.out.size))
            obtain ⟨bx, ox, hsA, _, x0⟩ := (HROW.out.below hb (by rw [HY.out]; exact Nat.le_refl _)).els.at1 (f := fun x : Int => .int .i64 x) hil
            obtain ⟨q, hq, hqW, hbit, hmay⟩ := HTK.out _ (List.getElem_mem hil)
            have hst2 := HSTEP.out i hil
            rw [hq] at x0 hst2
            have hqw : q < W := by rw [← HW.out]; exact hqW
            have hd1 : decide ((q : Int) < 0) = false := decide_eq_false (by omega)
            have hd2 : decide ((W : Int) ≤ (q : Int)) = false := decide_eq_false (by omega)
            have hd3 : decide (W ≤ q) = false := decide_eq_false (by omega)
            obtain ⟨bw, ow, hAw, _, g0, g1⟩ := (HWS.out.below hbw).at2 (f := fun a : Wk => .int .i64 a.1) (g := fun a : Wk => .int .u32 (wN a.2)) hqW
            have hss : s < svs.length := by rw [HM.out]; exact hsm
            obtain ⟨bs, os, hBs, _, t0⟩ := (HTS.out.below hbw).at1 (f := fun x : BitVec 32 => .int .u32 (wN x)) hss
            rw [← getD_at ws q hqW (0, w0)] at g0 g1
            rw [← getD_at svs s hss w0] at t0
            have e1 : ws.getD q (0, w0) = wk ws q := rfl
            have e2 : svs.getD s w0 = lw svs s := rfl
            rw [e1] at g0 g1
            rw [e2] at t0
            obtain ⟨kk, hkk⟩ : ∃ kk, kk = wk ws q := ⟨_, rfl⟩
            obtain ⟨tt, htt⟩ : ∃ tt, tt = lw svs s := ⟨_, rfl⟩
            rw [← hkk] at g0 g1 hmay
            rw [← htt] at t0 hmay
            have d1 := (HK3.out.below hb (by rw [HY.out]; exact HK3.out.lt)).cell 1
            have HBIT := Lib.hid (Bit_any c.inn q wq.drew)
            rw [hbit] at HBIT
            have HMAYQ := Lib.hid (ref_May kk tt wq.drew)
            rw [hmay] at HMAYQ
            have hcnt := cntL_at (W := W) (preT c.tasks s i) hqw
            have hcs := cntL_step (W := W) (preT c.tasks s i) hqw
            rw [← hst2] at hcs
            have hcl : (preT c.tasks s i).count (q : Int) ≤ 168 := Nat.le_trans List.count_le_length (by have := HPL.out i; omega)
            obtain ⟨v, hv⟩ : ∃ v, v = (cntL W (preT c.tasks s i)).getD q 0 := ⟨_, rfl⟩
            rw [← hv] at hcnt hcs
            have hwv : IntKind.i64.wrap (v + 1) = v + 1 := IntWalk.i64_in _ (by omega)
            have HCS := Lib.hid hcs
            have HV := Lib.hid hv
            have HB := Lib.hid hb
            have HO := Lib.hid ho
            have hYz : Y ≤ wq.heap.size := by have := hb.size; rw [HY.out]; exact this
            subst hsA hAw hBs
            clear e1 e2 hkk htt hbit hmay hcs hv hb ho hbw hst2 hq hcl hcnt
            go_wp2_with fail
            refine region_plain 24 27 (fun w' => w' = wq.drew) (by kernel_rfl) rfl ?_
            refine anyC_reads (by kernel_rfl) [0, 1, 2, 3, 4, 5, 6, 7, 8, 9, 10, 11] ?opa ?oha 15 _ _ _ (by kernel_rfl) ?oka
            case oha => (simp only [List.filterMap_cons, List.filterMap_nil, List.getElem?_toArray, List.getElem?_cons_zero, List.getElem?_cons_succ]; try rfl)
            repeat (
              refine readC_step (v := ?_) rfl (fun w' hw' => ?_) ?_
              rotate_left
              focus (subst hw'; go_simp; try with_reducible rfl)
              go_simp)
            refine readC_nil ?_
            refine anyC_one (i := 12) (by kernel_rfl) rfl rfl (.inr rfl) ?_
            go_simp
            refine HBIT.out.mono ?_
            rintro e wz ⟨rfl, rfl⟩
            refine anyC_reads (by kernel_rfl) [13, 14, 15, 16, 17, 18, 19, 20, 21, 22, 23] ?opb ?ohb 3 _ _ _ (by kernel_rfl) ?okb
            case ohb => (simp only [List.filterMap_cons, List.filterMap_nil, List.getElem?_toArray, List.getElem?_cons_zero, List.getElem?_cons_succ]; try rfl)
            repeat (
              refine readC_step (v := ?_) rfl (fun w' hw' => ?_) ?_
              rotate_left
              focus (subst hw'; go_simp; try with_reducible rfl)
              go_simp)
            refine readC_nil ?_
            refine anyC_one (i := 24) (by kernel_rfl) rfl rfl (.inr rfl) ?_
            go_simp
            refine HMAYQ.out.mono ?_
            rintro e w6 ⟨rfl, hb6⟩
            have hb6' := HB.out.drew.trans (hb6.mono hYz)
            have ho6 := HO.out.drew.below hb6 (Nat.le_refl _)
            have hz6 := hb6.size
            obtain ⟨Y', hY', hYl, _, m0, mf⟩ := ho6.cell1 (k := q) (by rw [cntL_len]; exact hqw)
            have : Y = Y' := by simpa using hY'
            subst this
            rw [← getD_at _ q (by rw [cntL_len]; exact hqw) 0, ← HV.out] at m0
            have hput := ho6.put1 (k := q) (x := v + 1) (by rw [cntL_len]; exact hqw)
            rw [← HCS.out] at hput
            have HPUT := Lib.hid hput
            have HB6 := Lib.hid (hb6'.setCell (p := ⟨Y, q, none⟩) (Nat.le_refl _) (.int .i64 (v + 1)))
            clear hb6 hb6' ho6 hput
            refine anyC_one (i := 25) (by kernel_rfl) rfl rfl (.inl rfl) ?_
            go_simp
            refine anyC_one (i := 26) (by kernel_rfl) rfl rfl (.inl rfl) ?_
            go_simp
            refine anyC_end (by kernel_rfl) (.inl rfl) ?_
            go_wp2_with fail
            go_roundw
            case rel => exact ⟨i + 1, by omega, by go_num, HB6.out, HPUT.out⟩
            case measure => simp [intOf]; omega
          · obtain rfl : i = n := by omega
            have HB := Lib.hid hb
            have ho' : Own wq Y 3 1 icell (some ⟨Y, 0, none⟩) W (cntL W (preT c.tasks (s + 1) 0)) := by
              rw [← HNEXT.out, ← HN.out]
              exact ho
            have HO := Lib.hid ho'
            clear hb ho ho'
            go_wp2_with fail
            go_roundw
            case rel => exact ⟨s + 1, by omega, by go_num, HB.out, HO.out⟩
            case measure => simp [intOf]; omega
      · obtain rfl : s = m := by omega
        have hsl : s = c.tasks.length := by rw [← HRD4.out.tsk, List.length_map]; exact HRD4.out.rl.symm
        have hall : preT c.tasks s 0 = c.tasks.flatten := by rw [hsl]; exact preT_all _
        rw [hall] at ho
        have HB := Lib.hid hb
        have HO := Lib.hid ho
        clear hb ho hrd hall hsl
        go_wp2_with fail
        go_loopw [95] (fun s95 wq => ∃ j : Nat, j ≤ W ∧ s95 = .int .i64 j ∧ Below Y w3 wq ∧ Own wq Y 3 1 icell (some ⟨Y, 0, none⟩) W (cntL W c.tasks.flatten)) (fun s95 _ => W - (intOf s95).toNat)
        case atStart => exact ⟨0, Nat.zero_le _, rfl, HB.out, HO.out⟩
        case round =>
          clear HB HO
          rename World => wq
          obtain ⟨j, hj, rfl, hb, ho⟩ := hrel
          have hYz : Y ≤ wq.heap.size := by have := hb.size; rw [HY.out]; exact this
          have hbw := HB4.out.trans (hb.mono (by rw [HY.out]; exact HB4.out.size))
          by_cases hjW : j < W
          · have hjl : j < ws.length := by rw [HW.out]; exact hjW
            obtain ⟨bw, ow, hAw, hbw2, g0, g1⟩ := (HWS.out.below hbw).at2 (f := fun a : Wk => .int .i64 a.1) (g := fun a : Wk => .int .u32 (wN a.2)) hjl
            rw [← getD_at ws j hjl (0, w0)] at g0 g1
            have e1 : ws.getD j (0, w0) = wk ws j := rfl
            rw [e1] at g0 g1
            have hcnt := HOK.out.cnt j
            have hca := cntL_at (W := W) c.tasks.flatten hjW
            obtain ⟨kk, hkk⟩ : ∃ kk, kk = wk ws j := ⟨_, rfl⟩
            rw [← hkk] at g0 g1 hcnt
            obtain ⟨Z, hZ⟩ : ∃ Z, Z = wq.heap.size := ⟨_, rfl⟩
            have hzk := Blk.new wq 39 #[.int .i64 kk.1, .int .u32 (wN kk.2)]
            have z0 := hzk.cell 0
            have ho2 := ho.alloc (.cells #[.int .i64 kk.1, .int .u32 (wN kk.2)] 39)
            obtain ⟨Y', hY', _, _, m0, _⟩ := ho2.cell1 (k := j) (by rw [cntL_len]; exact hjW)
            have : Y = Y' := by simpa using hY'
            subst this
            rw [← getD_at _ j (by rw [cntL_len]; exact hjW) 0] at m0
            obtain ⟨v, hv⟩ : ∃ v, v = (cntL W c.tasks.flatten).getD j 0 := ⟨_, rfl⟩
            rw [← hv] at m0 hca
            have hd : decide (kk.1 < v) = false := decide_eq_false (by omega)
            have HB := Lib.hid (hb.alloc hYz (.cells #[.int .i64 kk.1, .int .u32 (wN kk.2)] 39))
            have HO := Lib.hid ho2
            subst hAw
            clear e1 hkk hv hb ho ho2 hzk hbw hcnt hca
            go_wp2_with fail
            go_quiet (fail)
            go_wp2_with fail
            go_roundw
            case rel => exact ⟨j + 1, by omega, by go_num, below_drewN HB.out _, HO.out.drewN _⟩
            case measure => simp [intOf]; omega
          · obtain rfl : j = W := by omega
            have HBF := Lib.hid hbw
            have hkq := HK3.out.below hb (by rw [HY.out]; exact HK3.out.lt)
            have d0 := hkq.cell 0
            have d1 := hkq.cell 1
            have d2 := hkq.cell 2
            have d3 := hkq.cell 3
            have hrq := HRD4.out.below hb (by rw [HY.out]; exact Nat.le_refl _)
            have HRQ := Lib.hid hrq
            clear hb ho hbw hkq hrq
            by_cases hL0 : L = 0
            · have hl0 : ((L : Int) == 0) = true := by simp [hL0]
              clear hL0
              go_wp2_with fail
              go_ret
              exact ⟨ret_bool rfl, HBF.out⟩
            · have hl0 : ((L : Int) == 0) = false := by simp [hL0]
              have hLl : L - 1 < script.length := by rw [HL.out]; omega
              obtain ⟨bc, oc, hCc, -, q0, -, -⟩ := (HCS.out.below HBF.out).at3 (f := fun x : Chg => .int .i64 x.1) (g := fun x : Chg => .int .i64 x.2.1) (p := fun x : Chg => .int .i64 x.2.2) hLl
              obtain ⟨x, hx⟩ : ∃ x, x = script[L - 1] := ⟨_, rfl⟩
              rw [← hx] at q0
              have hsp : script = script.take (L - 1) ++ [x] := by
                rw [hx]
                conv => lhs; rw [← List.take_of_length_le (l := script) (i := L - 1 + 1) (by rw [HL.out]; omega), List.take_succ_eq_append_getElem hLl]
              have HTK := Lib.hid (HTICK.out x _ hsp)
              have hw1 : IntKind.i64.wrap ((L : Int) - 1) = ((L - 1 : Nat) : Int) := by rw [IntWalk.i64_in _ (by omega)]; omega
              have hw2 : (L : Int) - 1 = ((L - 1 : Nat) : Int) := by omega
              have hL1 : L - 1 < L := by omega
              obtain ⟨L1, hL1e⟩ : ∃ L1, L1 = L - 1 := ⟨_, rfl⟩
              rw [← hL1e] at q0 hw1 hw2 hL1
              obtain ⟨K, hK⟩ : ∃ K, K = x.1 := ⟨_, rfl⟩
              rw [← hK] at q0 HTK
              subst hCc
              clear hsp hx hK hL0 hL1e hLl
              by_cases hK4 : K = 4
              · have hk4 : (K != 4) = false := by simp [hK4]
                have HWN := Lib.hid (top_wanted Ac L kc s gw gt rows c wq hm12 HRQ.out HOK.out.t12 HOK.out.w0 (HTK.out hK4))
                clear hK4
                go_wp2_with fail
                refine HWN.out.mono ?_
                rintro e w9 ⟨rfl, hb9⟩
                go_wp2_with fail
                go_ret
                exact ⟨ret_bool rfl, HBF.out.trans (hb9.mono HBF.out.size)⟩
              · have hk4 : (K != 4) = true := by simp [hK4]
                clear hK4
                go_wp2_with fail
                go_ret
                exact ⟨ret_bool rfl, HBF.out⟩
  · have HPLAY := Lib.hid (crew_Play_bad A B C W cA m cB L cC ws w hW hWm hmm hLm hws he)
    have HMAY := Lib.hid (fun (v : World) (hb : Below w.heap.size w v) => top_may A B C W cA m cB L cC ws v hW hWm hmm hLm ((hws.below hb).more hb.size))
    have h1 : (playE ws m L == 0) = false := by simpa using he
    have h2 : (playE ws m L != 0) = true := by simpa using he
    rw [h1] at HMAY
    generalize playE ws m L = x at HPLAY h1 h2 he
    clear he hws hts hcs hW hM hL
    go_enter Try.func3, Try.ntmps3
    go_wp2_with fail
    refine HPLAY.out.mono ?_
    clear HPLAY
    rintro e w1 ⟨rfl, hb1⟩
    have hb2 := hb1.alloc hb1.size (.cells #[.slice none 0 0, .int .u32 0, .slice none 0 0, .slice none 0 0] 30)
    obtain ⟨V, hV⟩ : ∃ V, V = w1.alloc (.cells #[.slice none 0 0, .int .u32 0, .slice none 0 0, .slice none 0 0] 30) := ⟨_, rfl⟩
    rw [← hV] at hb2
    have HB2 := Lib.hid hb2
    have HV := Lib.hid hV
    clear hb1 hb2 hV
    go_wp2_with fail
    rw [← HV.out]
    refine (HMAY.out V HB2.out).mono ?_
    rintro e w2 ⟨rfl, hb3⟩
    go_wp2_with fail
    go_ret
    exact ⟨ret_bool rfl, HB2.out.trans (hb3.mono HB2.out.size)⟩
theorem TopRoom_row (s : Sls (Int × Int)) (t : Sls Int) (u : Sls Chg) (w : World) (h : s.Good w w.heap.size 2 (fun p => [.int .i64 p.1, .int .u32 p.2]) (fun p => OkI p.1 ∧ OkU p.2)) (ht : t.Good w w.heap.size 1 (fun p => [.int .u32 p]) OkU) (hu : u.Good w w.heap.size 3 chcell (fun p => OkI p.1 ∧ OkI p.2.1 ∧ OkI p.2.2)) :
    Calls Try.prog 3 #[s.val, t.val, u.val] w fun e w' => e = .returned (.bool true) ∧ Below w.heap.size w w' :=
  law_TopRoom s.A t.A u.A s.l.length s.c t.l.length t.c u.l.length u.c (s.l.map fun p => (p.1, wordOf p.2)) (t.l.map wordOf) u.l w (by simp) (by simp) rfl h.1 ht.1 hu.1
    (h.2.2.1.map_ _ fun a ha => by rw [wkcell, wN_wordOf (h.2.2.2 a ha).2.1 (h.2.2.2 a ha).2.2])
    (ht.2.2.1.map_ _ fun a ha => by rw [wcell, wN_wordOf (ht.2.2.2 a ha).1 (ht.2.2.2 a ha).2]) hu.2.2.1
end Go.Proofs.Ytdinknpagklkjaa
