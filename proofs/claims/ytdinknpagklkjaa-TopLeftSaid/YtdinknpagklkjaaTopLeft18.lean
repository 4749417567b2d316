/- The reference's comparisons answer true of two slices that read as the same list. Conditions: both read so. -/
import Derived.Test.YtdinknpagklkjaaProg
import Derived.Test.YtdinknpagklkjaaTopLeft2
import Derived.Test.YtdinknpagklkjaaTopLeft14
import Derived.BigQuiet
import Derived.Test.YtdinknpagklkjaaTopLeft6
import Derived.Test.YtdinknpagklkjaaTopLeft1
import Derived.Test.YtdinknpagklkjaaTopLeft17
namespace Go.Proofs.Ytdinknpagklkjaa
open Go.RowKit
attribute [local go_sem] w_eq0 w_ne0 w_eq1 w_eq w_ne


set_option maxRecDepth 100000 in
theorem Ints_same (A A' : Option Addr) (n c c' : Nat) (l : List (Int)) (B B' : Nat) (w : World) (hl : l.length = n) (hn : n ≤ maxLen) (hr : Els w B 1 (fun a => [.int .i64 a]) A l) (hr' : Els w B' 1 (fun a => [.int .i64 a]) A' l) :
    Calls Try.prog 19 #[.slice A n c, .slice A' n c'] w fun e w' => e = .returned (.bool true) ∧ ∃ m, w' = w.drewN m := by
  unfold maxLen at hn
  have HL := Lib.hid hl
  clear hl
  go_enter Try.func19, Try.ntmps19
  go_wp2_with fail
  go_loopw [5] (fun i wr => ∃ k m : Nat, k ≤ n ∧ i = .int .i64 k ∧ wr = w.drewN m) (fun i _ => n - (intOf i).toNat)
  case atStart => exact ⟨0, 0, by omega, rfl, rfl⟩
  case round =>
    obtain ⟨k, m, hk, rfl, rfl⟩ := hrel
    by_cases hlt : k < n
    · have hkl : k < l.length := by rw [HL.out]; exact hlt
      obtain ⟨b, off, rfl, _, g0⟩ := hr.at1 hkl
      obtain ⟨b', off', rfl, _, g1⟩ := hr'.at1 hkl
      generalize l[k] = x at g0 g1
      clear hr hr'
      have hx : (x != x) = false := by simp
      go_wp2_with fail
      go_quiet (fail)
      go_wp2_with fail
      refine ⟨⟨k + 1, m + nq, by omega, by go_num, by first | rfl | rw [World.drewN_drewN]⟩, by simp [intOf]; omega⟩
    · obtain rfl : k = n := by omega
      go_wp2_with fail
      go_ret
      exact ⟨rfl, m, rfl⟩


end Go.Proofs.Ytdinknpagklkjaa

/- The comparison of two lists of lists that hold the same. Conditions: both lists. -/
namespace Go.Proofs.Ytdinknpagklkjaa
open Go.RowKit

set_option maxRecDepth 100000 in
set_option maxHeartbeats 1000000 in
theorem Lists_rowI (N : Nat) (A A' : Option Addr) (c c' B B' : Nat) (s s' : List (Sls Int)) (w : World) (hs : s.length = N) (hs' : s'.length = N) (hN : N ≤ 43046721) (h : Els w B 1 (fun t : Sls Int => [t.val]) A s) (h' : Els w B' 1 (fun t : Sls Int => [t.val]) A' s') (hr : ∀ t ∈ s, RowI w t) (hr' : ∀ t ∈ s', RowI w t) (he : s.map (fun t => t.l) = s'.map (fun t => t.l)) (hlen : ∀ t ∈ s, t.l.length ≤ 1000) :
    Calls Try.prog 45 #[.slice A N c, .slice A' N c'] w fun e w' => e = .returned (.bool true) ∧ ∃ m, w' = w.drewN m := by
  have HM := Lib.hid h
  have HM' := Lib.hid h'
  have HR := Lib.hid hr
  have HR' := Lib.hid hr'
  have HE := Lib.hid he
  have HLEN := Lib.hid hlen
  have HP := Lib.hid hs
  have HP' := Lib.hid hs'
  clear h h' he hs hs' hr hr' hlen
  go_enter Try.func45, Try.ntmps45
  go_wp2_with fail
  go_loopw [5] (fun i wr => ∃ k m : Nat, k ≤ N ∧ i = .int .i64 k ∧ wr = w.drewN m) (fun i _ => N - (intOf i).toNat)
  case atStart => exact ⟨0, 0, by omega, rfl, rfl⟩
  case round =>
    obtain ⟨k, m, hk, rfl, rfl⟩ := hrel
    by_cases hlt : k < N
    · have hkl : k < s.length := by rw [HP.out]; exact hlt
      have hkl' : k < s'.length := by rw [HP'.out]; exact hlt
      obtain ⟨b1, o1, hA1, _, e1⟩ := HM.out.at1 (f := fun t : Sls Int => t.val) hkl
      obtain ⟨b2, o2, hA2, _, e2⟩ := HM'.out.at1 (f := fun t : Sls Int => t.val) hkl'
      have hl : s'[k].l = s[k].l := by
        have := congrArg (fun l => l[k]?) HE.out
        simp only [List.getElem?_map, List.getElem?_eq_getElem hkl, List.getElem?_eq_getElem hkl', Option.map_some, Option.some.injEq] at this
        exact this.symm
      have r1 := HR.out s[k] (List.getElem_mem hkl)
      have r2 := HR'.out s'[k] (List.getElem_mem hkl')
      have hln := HLEN.out s[k] (List.getElem_mem hkl)
      obtain ⟨t, ht⟩ : ∃ t, t = s[k] := ⟨_, rfl⟩
      obtain ⟨t', ht'⟩ : ∃ t', t' = s'[k] := ⟨_, rfl⟩
      rw [← ht] at e1 hl r1 hln
      rw [← ht'] at e2 hl r2
      obtain ⟨tA, tc, tl⟩ := t
      obtain ⟨tA', tc', tl'⟩ := t'
      simp only at hl e1 e2 hln
      subst hl
      have HI : Hid (∀ q, Calls Try.prog 19 #[.slice tA tl'.length tc, .slice tA' tl'.length tc'] (w.drewN q) fun e w' => e = .returned (.bool true) ∧ ∃ m, w' = (w.drewN q).drewN m) := Lib.hid (fun q =>
        Ints_same tA tA' tl'.length tc tc' tl' w.heap.size w.heap.size (w.drewN q) rfl (by unfold maxLen; omega) (r1.els.drewN q) (r2.els.drewN q))
      subst hA1 hA2
      clear r1 r2 ht ht' hln
      go_wp2_with fail
      go_quiet ((go_at_call 19; have h := HI.out; first | with_reducible exact quietAN (h _) | with_reducible exact quietN (h _)))
      go_wp2_with fail
      refine ⟨⟨k + 1, m + nq, by omega, by go_num, by first | rfl | rw [World.drewN_drewN]⟩, by simp [intOf]; omega⟩
    · obtain rfl : k = N := by omega
      go_wp2_with fail
      go_ret
      exact ⟨rfl, m, rfl⟩
end Go.Proofs.Ytdinknpagklkjaa

/- May a task be with a worker: the reference. Conditions: none. -/
namespace Go.Proofs.Ytdinknpagklkjaa
open Go.RowKit
attribute [local go_sem ↓] w_and w_or w_xor w_andNot w_and1 w_and255 w_xor1 w_or0 w_shl w_shl1 w_shr w_sub w_add w_sub1 w_add1
attribute [local go_sem] w_eq0 w_ne0 w_eq1 w_eq w_ne

theorem ref_May (a : Wk) (t : BitVec 32) (w : World) :
    Calls Try.prog 16 #[.agg #[.int .i64 a.1, .int .u32 (wN a.2)], .int .u32 (wN t)] w fun e w' => e = .returned (.bool (mayW t a)) ∧ Below w.heap.size w w' := by
  have h1 := (Blk.new w 39 #[.int .i64 a.1, .int .u32 (wN a.2)]).cell 1
  have HB := Lib.hid ((Below.refl w.heap.size w).alloc (Nat.le_refl _) (.cells #[.int .i64 a.1, .int .u32 (wN a.2)] 39))
  have HM := Lib.hid (mayW_and t a)
  go_enter Try.func16, Try.ntmps16
  go_wp2_with fail
  go_ret
  exact ⟨ret_bool HM.out, HB.out⟩
end Go.Proofs.Ytdinknpagklkjaa

/- The crew that was played, to be read; may a script be; has an answer all its parts; are two answers the same. Conditions: the parts read as lists. -/
namespace Go.Proofs.Ytdinknpagklkjaa
open Go.RowKit
attribute [local go_sem] Oper.semAt_some

structure CrewR (w : World) (m gw gt : Nat) (Ac : Option Addr) (rows : List (Sls Int)) (c : Cw) : Prop where
  cod : Els w w.heap.size 1 icell Ac c.codes
  wnt : Els w w.heap.size 1 icell (some ⟨gw, 0, none⟩) c.wants
  tab : Els w w.heap.size 1 slcell (some ⟨gt, 0, none⟩) rows
  row : ∀ s ∈ rows, RowI w s
  tsk : rows.map (·.l) = c.tasks
  rl : rows.length = m
  wl : c.wants.length = m
theorem CrewIn.read {w : World} {lo P m gw gt kc : Nat} {vw vs : Value} {Ac : Option Addr} {rows : List (Sls Int)} {c : Cw} (h : CrewIn w lo P vw vs m gw gt Ac kc rows c) : CrewR w m gw gt Ac rows c :=
  ⟨h.cod.els, h.wnt.els, h.tab.els, fun s hs => by
    obtain ⟨j, hj, rfl⟩ := List.mem_iff_getElem.1 hs
    have := RowI.of_own (h.row j (by rw [← h.rl]; exact hj))
    have e : rwAt rows j = rows[j] := getD_at rows j hj _
    rw [e] at this
    exact this, h.tsk, h.rl, h.wl⟩
theorem CrewR.below {w w' : World} {B m gw gt : Nat} {Ac : Option Addr} {rows : List (Sls Int)} {c : Cw} (h : CrewR w m gw gt Ac rows c) (hb : Below B w w') (hB : w.heap.size ≤ B) : CrewR w' m gw gt Ac rows c :=
  ⟨(h.cod.below (hb.mono hB)).more hb.size, (h.wnt.below (hb.mono hB)).more hb.size, (h.tab.below (hb.mono hB)).more hb.size, fun s hs => (h.row s hs).below hb hB, h.tsk, h.rl, h.wl⟩
theorem CrewR.alloc {w : World} {m gw gt : Nat} {Ac : Option Addr} {rows : List (Sls Int)} {c : Cw} (h : CrewR w m gw gt Ac rows c) (o : Obj) : CrewR (w.alloc o) m gw gt Ac rows c := h.below ((Below.refl _ w).alloc (Nat.le_refl _) o) (Nat.le_refl _)
theorem CrewR.drewN {w : World} {m gw gt : Nat} {Ac : Option Addr} {rows : List (Sls Int)} {c : Cw} (h : CrewR w m gw gt Ac rows c) (n : Nat) : CrewR (w.drewN n) m gw gt Ac rows c := ⟨h.cod.drewN n, h.wnt.drewN n, h.tab.drewN n, fun s hs => h.row s hs, h.tsk, h.rl, h.wl⟩
theorem play_iff {ws : List Wk} {m L : Nat} : (playE ws m L = 0) ↔ (placeCheck ws m = 0 ∧ L ≤ 64) := by
  unfold playE
  by_cases h : placeCheck ws m = 0
  · rw [if_neg (by omega)]
    split <;> omega
  · rw [if_pos h]
    omega
theorem top_may (A B C : Option Addr) (W cA m cB L cC : Nat) (ws : List Wk) (w : World) (hW : ws.length = W) (hWm : W ≤ maxLen) (hmm : m ≤ maxLen) (hLm : L ≤ maxLen) (hws : Els w w.heap.size 2 wkcell A ws) :
    Calls Try.prog 13 #[.slice A W cA, .slice B m cB, .slice C L cC] w fun e w' => e = .returned (.bool (playE ws m L == 0)) ∧ Below w.heap.size w w' := by
  have HE := Lib.hid (ref_PlaceCheck A B W cA m cB ws w hW hWm hws hmm)
  have hiff := @play_iff ws m L
  clear hW hws
  unfold maxLen at hWm hmm hLm
  by_cases hx : placeCheck ws m = 0
  · rw [hx] at HE
    by_cases h64 : L ≤ 64
    · have hp : (playE ws m L == 0) = true := by simpa using hiff.2 ⟨hx, h64⟩
      rw [hp]
      have hd : decide ((L : Int) ≤ 64) = true := decide_eq_true (by omega)
      clear hp hiff hx
      go_enter Try.func13, Try.ntmps13
      go_wp2_with fail
      refine HE.out.mono ?_
      clear HE
      rintro e v1 ⟨rfl, hb1⟩
      go_wp2_with fail
      go_ret
      exact ⟨ret_bool rfl, hb1⟩
    · have hp : (playE ws m L == 0) = false := by
        simp only [beq_eq_false_iff_ne, ne_eq]
        intro h
        exact h64 (hiff.1 h).2
      rw [hp]
      clear hp hiff hx
      have hd : decide ((L : Int) ≤ 64) = false := decide_eq_false (by omega)
      go_enter Try.func13, Try.ntmps13
      go_wp2_with fail
      refine HE.out.mono ?_
      clear HE
      rintro e v1 ⟨rfl, hb1⟩
      go_wp2_with fail
      go_ret
      exact ⟨ret_bool rfl, hb1⟩
  · have hp : (playE ws m L == 0) = false := by
      simp only [beq_eq_false_iff_ne, ne_eq]
      intro h
      exact hx (hiff.1 h).1
    rw [hp]
    have h1 : (placeCheck ws m == 0) = false := by simpa using hx
    generalize placeCheck ws m = x at HE h1 hx
    clear hp hiff hx
    go_enter Try.func13, Try.ntmps13
    go_wp2_with fail
    refine HE.out.mono ?_
    clear HE
    rintro e v1 ⟨rfl, hb1⟩
    go_wp2_with fail
    go_ret
    exact ⟨ret_bool rfl, hb1⟩
theorem top_whole (B C Ac Aw At : Option Addr) (m cB L cC kc cw ct : Nat) (x : Int) (w : World) :
    Calls Try.prog 14 #[.agg #[.slice Ac L kc, .int .u32 x, .slice Aw m cw, .slice At m ct], .slice B m cB, .slice C L cC] w fun e w' => e = .returned (.bool true) ∧ Below w.heap.size w w' := by
  have hk := Blk.new w 30 #[.slice Ac L kc, .int .u32 x, .slice Aw m cw, .slice At m ct]
  have c0 := hk.cell 0
  have c2 := hk.cell 2
  have c3 := hk.cell 3
  have HB := Lib.hid ((Below.refl w.heap.size w).alloc (Nat.le_refl _) (.cells #[.slice Ac L kc, .int .u32 x, .slice Aw m cw, .slice At m ct] 30))
  clear hk
  go_enter Try.func14, Try.ntmps14
  go_wp2_with fail
  go_ret
  exact ⟨ret_bool (by simp), HB.out⟩
set_option maxRecDepth 100000 in
theorem Codes_same (A A' : Option Addr) (n c c' : Nat) (l : List (Int)) (B B' : Nat) (w : World) (hl : l.length = n) (hn : n ≤ maxLen) (hr : Els w B 1 (fun a => [.int .i64 a]) A l) (hr' : Els w B' 1 (fun a => [.int .i64 a]) A' l) :
    Calls Try.prog 44 #[.slice A n c, .slice A' n c'] w fun e w' => e = .returned (.bool true) ∧ ∃ m, w' = w.drewN m := by
  unfold maxLen at hn
  have HL := Lib.hid hl
  clear hl
  go_enter Try.func44, Try.ntmps44
  go_wp2_with fail
  go_loopw [5] (fun i wr => ∃ k m : Nat, k ≤ n ∧ i = .int .i64 k ∧ wr = w.drewN m) (fun i _ => n - (intOf i).toNat)
  case atStart => exact ⟨0, 0, by omega, rfl, rfl⟩
  case round =>
    obtain ⟨k, m, hk, rfl, rfl⟩ := hrel
    by_cases hlt : k < n
    · have hkl : k < l.length := by rw [HL.out]; exact hlt
      obtain ⟨b, off, rfl, _, g0⟩ := hr.at1 hkl
      obtain ⟨b', off', rfl, _, g1⟩ := hr'.at1 hkl
      generalize l[k] = x at g0 g1
      clear hr hr'
      have hx : (x != x) = false := by simp
      go_wp2_with fail
      go_quiet (fail)
      go_wp2_with fail
      refine ⟨⟨k + 1, m + nq, by omega, by go_num, by first | rfl | rw [World.drewN_drewN]⟩, by simp [intOf]; omega⟩
    · obtain rfl : k = n := by omega
      go_wp2_with fail
      go_ret
      exact ⟨rfl, m, rfl⟩
set_option maxRecDepth 100000 in
set_option maxHeartbeats 1000000 in
theorem Crews_same (Ac : Option Addr) (L kc kc' m gw gt gw' gt' : Nat) (Ac' : Option Addr) (rows rows' : List (Sls Int)) (c c' : Cw) (w : World) (hL : c.codes.length = L) (hL64 : L ≤ 65536) (hm : m ≤ 12) (hc : Els w w.heap.size 1 icell Ac c.codes) (hc' : Els w w.heap.size 1 icell Ac' c.codes) (h : CrewR w m gw gt Ac rows c) (h' : CrewR w m gw' gt' Ac' rows' c') (hi : c.inn = c'.inn) (hwn : c.wants = c'.wants) (ht : c.tasks = c'.tasks) (hlen : ∀ s ∈ rows, s.l.length ≤ 1000) :
    Calls Try.prog 18 #[.agg #[.slice Ac L kc, .int .u32 (wN c.inn), .slice (some ⟨gw, 0, none⟩) m m, .slice (some ⟨gt, 0, none⟩) m m], .agg #[.slice Ac' L kc', .int .u32 (wN c'.inn), .slice (some ⟨gw', 0, none⟩) m m, .slice (some ⟨gt', 0, none⟩) m m]] w fun e w' => e = .returned (.bool true) ∧ Below w.heap.size w w' := by
  rw [show wN c'.inn = wN c.inn by rw [hi]]
  have hk1 := Blk.new w 30 #[.slice Ac L kc, .int .u32 (wN c.inn), .slice (some ⟨gw, 0, none⟩) m m, .slice (some ⟨gt, 0, none⟩) m m]
  have hb1 := (Below.refl w.heap.size w).alloc (Nat.le_refl _) (.cells #[.slice Ac L kc, .int .u32 (wN c.inn), .slice (some ⟨gw, 0, none⟩) m m, .slice (some ⟨gt, 0, none⟩) m m] 30)
  obtain ⟨S, hS⟩ : ∃ S, S = w.heap.size := ⟨_, rfl⟩
  have hz1 : (w.alloc (.cells #[.slice Ac L kc, .int .u32 (wN c.inn), .slice (some ⟨gw, 0, none⟩) m m, .slice (some ⟨gt, 0, none⟩) m m] 30)).heap.size = S + 1 := by rw [size_alloc', hS]
  obtain ⟨V1, hV1⟩ : ∃ V1, V1 = w.alloc (.cells #[.slice Ac L kc, .int .u32 (wN c.inn), .slice (some ⟨gw, 0, none⟩) m m, .slice (some ⟨gt, 0, none⟩) m m] 30) := ⟨_, rfl⟩
  rw [← hV1] at hk1 hb1 hz1
  have hk2 := Blk.new V1 30 #[.slice Ac' L kc', .int .u32 (wN c.inn), .slice (some ⟨gw', 0, none⟩) m m, .slice (some ⟨gt', 0, none⟩) m m]
  have hk12 := hk1.alloc (.cells #[.slice Ac' L kc', .int .u32 (wN c.inn), .slice (some ⟨gw', 0, none⟩) m m, .slice (some ⟨gt', 0, none⟩) m m] 30)
  have hb2 := hb1.alloc (by rw [hz1]; omega) (.cells #[.slice Ac' L kc', .int .u32 (wN c.inn), .slice (some ⟨gw', 0, none⟩) m m, .slice (some ⟨gt', 0, none⟩) m m] 30)
  obtain ⟨V2, hV2⟩ : ∃ V2, V2 = V1.alloc (.cells #[.slice Ac' L kc', .int .u32 (wN c.inn), .slice (some ⟨gw', 0, none⟩) m m, .slice (some ⟨gt', 0, none⟩) m m] 30) := ⟨_, rfl⟩
  rw [← hV2] at hk2 hk12 hb2
  rw [hz1] at hk2
  rw [← hS] at hk12
  have h2 := h.below hb2 (Nat.le_refl _)
  have h2' := h'.below hb2 (Nat.le_refl _)
  have hwl := h2.wl
  have HCODES : Hid (∀ q, Calls Try.prog 44 #[.slice Ac L kc, .slice Ac' L kc'] (V2.drewN q) fun e w' => e = .returned (.bool true) ∧ ∃ m, w' = (V2.drewN q).drewN m) := Lib.hid (fun q =>
    Codes_same Ac Ac' L kc kc' c.codes V2.heap.size V2.heap.size (V2.drewN q) hL (by unfold maxLen; omega) (((hc.below hb2).more hb2.size).drewN q) (((hc'.below hb2).more hb2.size).drewN q))
  have HINTS : Hid (∀ q, Calls Try.prog 19 #[.slice (some ⟨gw, 0, none⟩) m m, .slice (some ⟨gw', 0, none⟩) m m] (V2.drewN q) fun e w' => e = .returned (.bool true) ∧ ∃ m, w' = (V2.drewN q).drewN m) := Lib.hid (fun q =>
    Ints_same _ _ m m m c.wants V2.heap.size V2.heap.size (V2.drewN q) hwl (by unfold maxLen; omega) (h2.wnt.drewN q) (by have := h2'.wnt.drewN q; rw [← hwn] at this; exact this))
  have HLISTS : Hid (∀ q, Calls Try.prog 45 #[.slice (some ⟨gt, 0, none⟩) m m, .slice (some ⟨gt', 0, none⟩) m m] (V2.drewN q) fun e w' => e = .returned (.bool true) ∧ ∃ m, w' = (V2.drewN q).drewN m) := Lib.hid (fun q =>
    Lists_rowI m _ _ m m V2.heap.size V2.heap.size rows rows' (V2.drewN q) h2.rl h2'.rl (by omega) (h2.tab.drewN q) (h2'.tab.drewN q) (fun s hs => h2.row s hs) (fun s hs => h2'.row s hs) (by rw [h2.tsk, h2'.tsk, ht]) hlen)
  have HB2 := Lib.hid hb2
  have HK1 := Lib.hid hk12
  have HK2 := Lib.hid hk2
  have HV1 := Lib.hid hV1
  have HV2 := Lib.hid hV2
  have HS := Lib.hid hS
  have hz1' : V1.heap.size = S + 1 := hz1
  clear h h' h2 h2' hb1 hb2 hk1 hk12 hk2 hV1 hV2 hS hwl hi hwn ht hlen hc hc' hL hz1
  go_enter Try.func18, Try.ntmps18
  go_wp2_with fail
  rw [← HS.out, ← HV1.out, ← HV2.out]
  refine (show Calls _ _ _ V2 _ from HCODES.out 0).mono ?_
  clear HCODES
  rintro e w3 ⟨rfl, k1, rfl⟩
  have e1 : (V2.drewN 0).drewN k1 = V2.drewN k1 := rfl
  rw [e1]
  have a1 := (HK1.out.drewN k1).cell 1
  have a2 := (HK1.out.drewN k1).cell 2
  have b1 := (HK2.out.drewN k1).cell 1
  have b2 := (HK2.out.drewN k1).cell 2
  have HI2 := Lib.hid (HINTS.out k1)
  have hxx : (wN c.inn == wN c.inn) = true := by simp
  obtain ⟨W3, hW3⟩ : ∃ W3, W3 = V2.drewN k1 := ⟨_, rfl⟩
  rw [← hW3] at a1 a2 b1 b2 HI2 ⊢
  have HW3 := Lib.hid hW3
  clear e1 hW3 HINTS
  go_wp2_with fail
  refine HI2.out.mono ?_
  clear HI2
  rintro e w4 ⟨rfl, k2, rfl⟩
  have e2 : W3.drewN k2 = V2.drewN (k1 + k2) := by rw [HW3.out, World.drewN_drewN]
  rw [e2]
  have a3 := (HK1.out.drewN (k1 + k2)).cell 3
  have b3 := (HK2.out.drewN (k1 + k2)).cell 3
  have HL2 := Lib.hid (HLISTS.out (k1 + k2))
  obtain ⟨W4, hW4⟩ : ∃ W4, W4 = V2.drewN (k1 + k2) := ⟨_, rfl⟩
  rw [← hW4] at a3 b3 HL2 ⊢
  have HB4 : Hid (Below S w W4) := Lib.hid (by rw [hW4, HS.out]; exact below_drewN HB2.out _)
  clear e2 hW4 HLISTS HW3
  go_wp2_with fail
  refine HL2.out.mono ?_
  clear HL2
  rintro e w5 ⟨rfl, k3, rfl⟩
  go_wp2_with fail
  go_ret
  exact ⟨ret_bool rfl, by have := below_drewN HB4.out k3; rw [HS.out] at this; exact this⟩
end Go.Proofs.Ytdinknpagklkjaa

/- Nobody has more tasks than room: what the statement's loops count, in plain Lean; of no service are there more than are wanted. Conditions: none. -/
namespace Go.Proofs.Ytdinknpagklkjaa
open Go.RowKit
attribute [local go_sem] Oper.semAt_some

def preT (tasks : List (List Int)) (s i : Nat) : List Int := (tasks.take s).flatten ++ (tasks.getD s []).take i
theorem preT_zero (tasks : List (List Int)) : preT tasks 0 0 = [] := by simp [preT]
theorem preT_next (tasks : List (List Int)) {s : Nat} (hs : s < tasks.length) : preT tasks s (tasks.getD s []).length = preT tasks (s + 1) 0 := by
  unfold preT
  rw [List.take_length, List.take_succ_eq_append_getElem hs, List.flatten_append, getD_at tasks s hs]
  simp
theorem preT_step (tasks : List (List Int)) {s i : Nat} (hi : i < (tasks.getD s []).length) : preT tasks s (i + 1) = preT tasks s i ++ [(tasks.getD s [])[i]] := by
  unfold preT
  rw [List.take_succ_eq_append_getElem hi, List.append_assoc]
theorem preT_all (tasks : List (List Int)) : preT tasks tasks.length 0 = tasks.flatten := by simp [preT]
def cntL (W : Nat) (p : List Int) : List Int := (List.range W).map fun j : Nat => ((p.count (j : Int) : Nat) : Int)
theorem cntL_nil (W : Nat) : cntL W [] = List.replicate W 0 := by
  unfold cntL
  rw [List.eq_replicate_iff]
  refine ⟨by simp, fun b hb => ?_⟩
  obtain ⟨j, _, rfl⟩ := List.mem_map.1 hb
  rfl
theorem cntL_len (W : Nat) (p : List Int) : (cntL W p).length = W := by simp [cntL]
theorem cntL_at {W : Nat} (p : List Int) {q : Nat} (hq : q < W) : (cntL W p).getD q 0 = ((p.count (q : Int) : Nat) : Int) := by
  rw [getD_at _ q (by rw [cntL_len]; exact hq)]
  simp [cntL]
theorem cntL_step {W : Nat} (p : List Int) {q : Nat} (hq : q < W) : cntL W (p ++ [(q : Int)]) = (cntL W p).set q ((cntL W p).getD q 0 + 1) := by
  apply List.ext_getElem
  · simp [cntL]
  · intro j h1 h2
    rw [List.getElem_set]
    have hj : j < W := by simpa [cntL] using h1
    by_cases h : q = j
    · subst h
      rw [if_pos rfl, cntL_at p hq]
      simp [cntL, List.count_append]
    · rw [if_neg h]
      simp only [cntL, List.getElem_map, List.getElem_range, List.count_append, List.count_cons, List.count_nil]
      have : ¬ (((q : Int) == (j : Int)) = true) := by simp; omega
      rw [if_neg this]
      simp
theorem preT_len {tasks : List (List Int)} (h : ∀ s, (tasks.getD s []).length ≤ 12) {s i : Nat} : (preT tasks s i).length ≤ 12 * (s + 1) := by
  unfold preT
  rw [List.length_append]
  have h1 : ∀ s, (tasks.take s).flatten.length ≤ 12 * s := fun s => by
    induction s with
    | zero => simp
    | succ s ih =>
      rcases Nat.lt_or_ge s tasks.length with hs | hs
      · rw [List.take_succ_eq_append_getElem hs, List.flatten_append, List.length_append]
        have := h s
        rw [getD_at tasks s hs] at this
        simp only [List.flatten_cons, List.flatten_nil, List.append_nil]
        omega
      · rw [List.take_of_length_le (by omega)] at ih ⊢
        omega
  have h2 := h1 s
  have h3 := h s
  rw [List.length_take]
  omega
theorem tick_wanted (ws : List Wk) (svs : List (BitVec 32)) (l : List Chg) (x : Chg) (hx : x.1 = 4) (s : Nat) : ((playF ws svs (l ++ [x])).tasks.getD s []).length ≤ ((playF ws svs (l ++ [x])).wants.getD s 0).toNat := by
  rw [playF_snoc]
  unfold stepF chgF
  rw [if_neg (by omega), if_pos hx]
  exact cutF_len _ _ s
set_option maxRecDepth 100000 in
set_option maxHeartbeats 400000 in
theorem top_wanted (Ac : Option Addr) (L kc m gw gt : Nat) (rows : List (Sls Int)) (c : Cw) (w : World) (hm : m ≤ 12) (h : CrewR w m gw gt Ac rows c) (h12 : ∀ s, (c.tasks.getD s []).length ≤ 12) (h0 : ∀ n ∈ c.wants, 0 ≤ n) (hw : ∀ s, (c.tasks.getD s []).length ≤ (c.wants.getD s 0).toNat) :
    Calls Try.prog 17 #[.agg #[.slice Ac L kc, .int .u32 (wN c.inn), .slice (some ⟨gw, 0, none⟩) m m, .slice (some ⟨gt, 0, none⟩) m m]] w fun e w' => e = .returned (.bool true) ∧ Below w.heap.size w w' := by
  have hk := Blk.new w 30 #[.slice Ac L kc, .int .u32 (wN c.inn), .slice (some ⟨gw, 0, none⟩) m m, .slice (some ⟨gt, 0, none⟩) m m]
  have c2 := hk.cell 2
  have c3 := hk.cell 3
  have hb := (Below.refl w.heap.size w).alloc (Nat.le_refl _) (.cells #[.slice Ac L kc, .int .u32 (wN c.inn), .slice (some ⟨gw, 0, none⟩) m m, .slice (some ⟨gt, 0, none⟩) m m] 30)
  have hr := h.alloc (.cells #[.slice Ac L kc, .int .u32 (wN c.inn), .slice (some ⟨gw, 0, none⟩) m m, .slice (some ⟨gt, 0, none⟩) m m] 30)
  obtain ⟨V, hV⟩ : ∃ V, V = w.alloc (.cells #[.slice Ac L kc, .int .u32 (wN c.inn), .slice (some ⟨gw, 0, none⟩) m m, .slice (some ⟨gt, 0, none⟩) m m] 30) := ⟨_, rfl⟩
  have v2 : V.cell? ⟨w.heap.size, 2, none⟩ = some (.slice (some ⟨gw, 0, none⟩) m m) := by rw [hV]; exact c2
  rw [← hV] at hb hr
  have HB := Lib.hid hb
  have HR := Lib.hid hr
  have HV := Lib.hid hV
  have H12 := Lib.hid h12
  have H0 := Lib.hid h0
  have HW := Lib.hid hw
  clear hk hb hr hV h h12 h0 hw
  go_enter Try.func17, Try.ntmps17
  go_wp2_with fail
  rw [← HV.out]
  go_loop [8] (fun s8 => ∃ k : Nat, k ≤ m ∧ s8 = .int .i64 k) (fun s8 => m - (intOf s8).toNat)
  case atStart => exact ⟨0, Nat.zero_le _, rfl⟩
  case round =>
    obtain ⟨k, hk, rfl⟩ := hrel
    by_cases hkm : k < m
    · have hkr : k < rows.length := by rw [HR.out.rl]; exact hkm
      have hkw : k < c.wants.length := by rw [HR.out.wl]; exact hkm
      obtain ⟨b1, o1, e1, _, r0⟩ := HR.out.tab.at1 (f := fun t : Sls Int => t.val) hkr
      obtain ⟨b2, o2, e2, _, w0'⟩ := HR.out.wnt.at1 (f := fun x : Int => .int .i64 x) hkw
      simp only [Option.some.injEq, Addr.mk.injEq] at e1 e2
      obtain ⟨rfl, rfl, -⟩ := e1
      obtain ⟨rfl, rfl, -⟩ := e2
      rw [Nat.zero_add] at r0 w0'
      have hl : rows[k].l = c.tasks.getD k [] := by
        have := rw_len HR.out.tsk k
        unfold rwAt at this
        rw [getD_at rows k hkr] at this
        exact this
      have hlw := HW.out k
      have hl12 := H12.out k
      have hn0 := H0.out _ (List.getElem_mem hkw)
      rw [← hl] at hlw hl12
      rw [getD_at _ k hkw] at hlw
      generalize rows[k] = s at r0 hlw hl12
      obtain ⟨sA, sc, sl⟩ := s
      generalize c.wants[k] = n at w0' hlw hn0
      simp only at hlw hl12
      have hd : decide (n < (sl.length : Int)) = false := decide_eq_false (by omega)
      clear hl
      go_wp2_with fail
      go_round
      case rel => exact ⟨k + 1, by omega, by go_num⟩
      case measure => simp [intOf]; omega
    · obtain rfl : k = m := by omega
      go_wp2_with fail
      go_ret
      exact ⟨ret_bool rfl, HB.out⟩
end Go.Proofs.Ytdinknpagklkjaa
