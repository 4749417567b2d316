/- What a graph is told to be wrong: the one function graphCheck; the pair of an edge. Conditions: the edges read as a list. -/
import Derived.Test.YtbbdiondhnmnaaaDoorSpanMany17
import Derived.Test.YtbbdiondhnmnaaaDoorSpanMany4
namespace Go.Proofs.YtbbdiondhnmnaaaDoor
open Go.RowKit

structure Ed where
  a : Int
  b : Int
  w : Int
abbrev Ed.cells (e : Ed) : List Value := [.int .i64 e.a, .int .i64 e.b, .int .i64 e.w]
def Ed.of (p : Int × Int × Int) : Ed := ⟨p.1, p.2.1, p.2.2⟩
def Ed.pair (e : Ed) : Int × Int := (min e.a e.b, max e.a e.b)
def edgeCode (N : Int) (pre : List Ed) (e : Ed) : Int :=
  if e.a < 0 ∨ N ≤ e.a ∨ e.b < 0 ∨ N ≤ e.b then 2 else if e.a = e.b then 3 else if pre.any (fun f => f.pair == e.pair) then 3 else if e.w < -1048576 ∨ 1048576 < e.w then 4 else 0
def graphFrom (N : Int) : List Ed → List Ed → Int
  | _, [] => 0
  | pre, e :: l => if edgeCode N pre e = 0 then graphFrom N (pre ++ [e]) l else edgeCode N pre e
def graphCheck (N : Int) (l : List Ed) : Int := if N < 0 ∨ 10 < N ∨ 45 < l.length then 1 else graphFrom N [] l
theorem graph_round {N : Int} {l : List Ed} {k : Nat} (hk : k < l.length) (h : graphFrom N (l.take k) (l.drop k) = graphFrom N [] l) (e : Ed) (he : e = l[k]) :
    graphFrom N [] l = if edgeCode N (l.take k) e = 0 then graphFrom N (l.take (k + 1)) (l.drop (k + 1)) else edgeCode N (l.take k) e := by
  rw [← h, drop_at l k hk, graphFrom, ← he, he, List.take_succ_eq_append_getElem hk]

theorem graph_Of (e : Ed) (w : World) :
    Calls Tryd.prog 16 #[.agg #[.int .i64 e.a, .int .i64 e.b, .int .i64 e.w]] w fun r w' => r = .returned (.agg #[.int .i64 e.pair.1, .int .i64 e.pair.2]) ∧ Below w.heap.size w w' := by
  have H1 : Hid (e.pair.1 = if e.b < e.a then e.b else e.a) := by show min e.a e.b = _; rw [Int.min_def]; split <;> split <;> omega
  have H2 : Hid (e.pair.2 = if e.a < e.b then e.b else e.a) := by show max e.a e.b = _; rw [Int.max_def]; split <;> split <;> omega
  generalize e.pair.1 = p at H1 ⊢
  generalize e.pair.2 = q at H2 ⊢
  go_enter Tryd.func16, Tryd.ntmps16
  go_wp2
  all_goals
    refine bodyPost_ret (v := .agg #[.int .i64 p, .int .i64 q]) ?_ rfl ⟨rfl, ((Below.refl _ _).alloc (Nat.le_refl _) _).alloc (by simp) _⟩
    simp [results, Tryd.results16, go_sem]
    rw [H1.out, H2.out]
    constructor <;> split <;> omega

/-- What the map of pairs holds behind some edges. -/
def SeenIs (L : List ((Int × Int) × Value)) (pre : List Ed) : Prop :=
  ∀ p, getK L p = if pre.any (fun f => f.pair == p) then some (.int .i64 1) else none

theorem seen_put {L : List ((Int × Int) × Value)} {pre : List Ed} {e : Ed} (h : SeenIs L pre) : SeenIs (putK L e.pair (.int .i64 1)) (pre ++ [e]) := by
  intro p
  by_cases hp : p = e.pair
  · subst hp
    rw [getK_put_same, if_pos (by simp)]
  · rw [getK_put_other _ _ hp, h p, List.any_append]
    have : (e.pair == p) = false := by simpa using fun h => hp h.symm
    simp [this]

set_option maxRecDepth 100000 in
set_option maxHeartbeats 1000000 in
theorem graph_Check (N : Int) (A : Option Addr) (n c : Nat) (l : List Ed) (w : World) (hl : l.length = n) (hn : n ≤ maxLen) (hr : Els w w.heap.size 3 Ed.cells A l) :
    Calls Tryd.prog 7 #[.agg #[.int .i64 N, .slice A n c]] w fun e w' => e = .returned (.int .i64 (graphCheck N l)) ∧ Below w.heap.size w w' := by
  unfold maxLen at hn
  have HN : Hid (graphCheck N l = if N < 0 ∨ 10 < N ∨ 45 < n then 1 else graphFrom N [] l) := by subst hl; rfl
  have HL := Lib.hid hl
  clear hl
  have hbox := (Below.refl w.heap.size w).alloc (Nat.le_refl _) (.cells #[.int .i64 N, .slice A n c] 24)
  have HBX := Lib.hid hbox
  clear hbox
  have hmm := @run_makeMap Tryd.prog
  by_cases h1 : N < 0
  · go_enter Tryd.func7, Tryd.ntmps7
    go_wp2_with fail
    go_ret
    exact ⟨ret_i64 (by rw [HN.out, if_pos (by omega)]), HBX.out⟩
  by_cases h2 : 10 < N
  · go_enter Tryd.func7, Tryd.ntmps7
    go_wp2_with fail
    go_ret
    exact ⟨ret_i64 (by rw [HN.out, if_pos (by omega)]), HBX.out⟩
  by_cases h3 : 45 < n
  · go_enter Tryd.func7, Tryd.ntmps7
    go_wp2_with fail
    go_ret
    exact ⟨ret_i64 (by rw [HN.out, if_pos (by omega)]), HBX.out⟩
  have HM := Lib.hid (HN.out.trans (if_neg (by omega)))
  clear HN
  go_enter Tryd.func7, Tryd.ntmps7
  go_wp2_with fail
  go_loopw [25] (fun i wr => ∃ (k : Nat) (L : List ((Int × Int) × Value)), k ≤ n ∧ i = .int .i64 k ∧ Below w.heap.size w wr ∧ Blk wr w.heap.size 24 #[.int .i64 N, .slice A n c] ∧ MapB wr (w.heap.size + 1) pairV L ∧ SeenIs L (l.take k) ∧ graphFrom N (l.take k) (l.drop k) = graphFrom N [] l) (fun i _ => n - (intOf i).toNat)
  case atStart =>
    refine ⟨0, [], by omega, rfl, HBX.out.alloc HBX.out.size _, (Blk.new _ _ _).alloc _, ?_, fun p => rfl, rfl⟩
    have := MapB.made (kv := pairV) (w.alloc (.cells #[.int .i64 N, .slice A n c] 24))
    rwa [size_alloc'] at this
  case round =>
    obtain ⟨k, L, hk, rfl, hb, hblk, hmap, hseen, hgf⟩ := hrel
    have hsz := hb.size
    have hlt' := hblk.lt
    by_cases hlt : k < n
    · have hkl : k < l.length := by rw [HL.out]; exact hlt
      obtain ⟨b, off, rfl, hbb, g0, g1, g2⟩ := (hr.below hb).at3 hkl
      obtain ⟨e, he⟩ : ∃ e, e = l[k] := ⟨_, rfl⟩
      have HR := Lib.hid (graph_round hkl hgf e he)
      rw [← he] at g0 g1 g2
      have HE := Lib.hid he
      have HS := Lib.hid hseen
      have HG := Lib.hid hgf
      have hOf := graph_Of e
      have hP : (e.pair.1 = min e.a e.b) ∧ (e.pair.2 = max e.a e.b) := ⟨rfl, rfl⟩
      have hdup := hseen e.pair
      have hpeta : e.pair = (e.pair.1, e.pair.2) := rfl
      have HPE := Lib.hid hpeta
      have HDU : Hid ((l.take k).any (fun f => f.pair == e.pair) = (l.take k).any (fun f => f.pair == e.pair)) := rfl
      clear hgf he hseen hpeta
      generalize hp1 : e.pair.1 = p1 at hOf hP HPE
      generalize hp2 : e.pair.2 = p2 at hOf hP HPE
      rw [HPE.out] at hdup
      have HOF := Lib.hid hOf
      have HP := Lib.hid hP
      have HD := Lib.hid hdup
      clear hp1 hp2 hOf hP hdup HDU
      have hM0 := hmap.alloc (.cells #[.int .i64 e.a, .int .i64 e.b, .int .i64 e.w] 34)
      have hB0 := hblk.alloc (.cells #[.int .i64 e.a, .int .i64 e.b, .int .i64 e.w] 34)
      have hE0 := Blk.new wr 34 #[.int .i64 e.a, .int .i64 e.b, .int .i64 e.w]
      have hb0 := hb.alloc hsz (.cells #[.int .i64 e.a, .int .i64 e.b, .int .i64 e.w] 34)
      have HM0 := Lib.hid hM0
      have HB0 := Lib.hid hB0
      have HE0 := Lib.hid hE0
      have HBB := Lib.hid hb0
      have c0 := hblk.cell 0
      have c1 := hblk.cell 1
      have HMP := Lib.hid hmap
      clear hM0 hB0 hE0 hb0 hblk hmap
      go_wp2_with fail
      refine (HOF.out _).mono ?_
      rintro r w1 ⟨rfl, hb1⟩
      have hz1 := hb1.size
      have hM1 := HM0.out.below hb1 HM0.out.lt
      have hB1 := HB0.out.below hb1 HB0.out.lt
      have hE1 := HE0.out.below hb1 HE0.out.lt
      have hbb1 := HBB.out.trans (hb1.mono HBB.out.size)
      have d0 := (hB1.alloc (.cells #[.int .i64 p1, .int .i64 p2] 51)).cell 0
      have e0 := (hE1.alloc (.cells #[.int .i64 p1, .int .i64 p2] 51)).cell 0
      have e1 := (hE1.alloc (.cells #[.int .i64 p1, .int .i64 p2] 51)).cell 1
      have e2 := (hE1.alloc (.cells #[.int .i64 p1, .int .i64 p2] 51)).cell 2
      have hM2 := hM1.alloc (.cells #[.int .i64 p1, .int .i64 p2] 51)
      have hbb2 := hbb1.alloc hbb1.size (.cells #[.int .i64 p1, .int .i64 p2] 51)
      have hlook := run_look (P := Tryd.prog) keyL_pair Tryd.underlying49 (z := .int .i64 0) (fun u => by kernel_rfl) hM2 (p1, p2) false
      rw [HD.out] at hlook
      have HB2 := Lib.hid hbb2
      have HM2 := Lib.hid hM2
      have HB1 := Lib.hid hB1
      clear hM1 hB1 hE1 hbb1 hM2 hbb2 hb1
      by_cases q1 : p1 < 0
      · have HC : Hid (edgeCode N (l.take k) e = 2) := by
          show edgeCode N (l.take k) e = 2
          have := HP.out
          unfold edgeCode
          rw [if_pos (by omega)]
        go_wp2_with fail
        go_ret
        exact ⟨ret_i64 (by rw [HM.out, HR.out, HC.out]; rfl), HB2.out⟩
      by_cases q2 : N ≤ p2
      · have HC : Hid (edgeCode N (l.take k) e = 2) := by
          show edgeCode N (l.take k) e = 2
          have := HP.out
          unfold edgeCode
          rw [if_pos (by omega)]
        go_wp2_with fail
        go_ret
        exact ⟨ret_i64 (by rw [HM.out, HR.out, HC.out]; rfl), HB2.out⟩
      have HC := Lib.hid (show edgeCode N (l.take k) e = if e.a = e.b then 3 else if (l.take k).any (fun f => f.pair == e.pair) then 3 else if e.w < -1048576 ∨ 1048576 < e.w then 4 else 0 from by
        have := HP.out
        unfold edgeCode
        rw [if_neg (by omega)])
      by_cases q3 : p1 = p2
      · have q3' : (p1 == p2) = true := by simpa using q3
        have HC3 := Lib.hid (HC.out.trans (if_pos (by have := HP.out; omega)))
        clear q3 hlook
        go_wp2_with fail
        go_ret
        exact ⟨ret_i64 (by rw [HM.out, HR.out, HC3.out]; rfl), HB2.out⟩
      have q3' : (p1 == p2) = false := by simpa using q3
      have HC3 := Lib.hid (HC.out.trans (if_neg (by have := HP.out; omega)))
      clear q3
      rcases hd : (l.take k).any (fun f => f.pair == e.pair) with _ | _
      · rw [HPE.out] at hd
        have HDD := Lib.hid hd
        rw [hd] at hlook
        simp only [Bool.false_eq_true, if_false, Option.getD_none] at hlook
        clear hd
        have HC4 := Lib.hid (HC3.out.trans (if_neg (by rw [HPE.out, HDD.out]; simp)))
        by_cases q4 : e.w < -1048576
        · go_wp2_with fail
          go_ret
          exact ⟨ret_i64 (by rw [HM.out, HR.out, HC4.out.trans (if_pos (Or.inl q4))]; rfl), HB2.out⟩
        by_cases q5 : 1048576 < e.w
        · go_wp2_with fail
          go_ret
          exact ⟨ret_i64 (by rw [HM.out, HR.out, HC4.out.trans (if_pos (Or.inr q5))]; rfl), HB2.out⟩
        have HC5 := Lib.hid (HC4.out.trans (if_neg (by omega)))
        obtain ⟨W2, st, L1, hent, hM3, hget, hgrow2, hsz2, hst⟩ := run_entry (P := Tryd.prog) keyL_pair Tryd.underlying49 (z := .int .i64 0) (fun u => by kernel_rfl) HM2.out.drew (p1, p2)
        obtain ⟨W3, hst3, hM4, hgrow3, hsz3⟩ := hst W2 (.int .i64 1) rfl
        have hlookD := run_look (P := Tryd.prog) keyL_pair Tryd.underlying49 (z := .int .i64 0) (fun u => by kernel_rfl) HM2.out.drew (p1, p2) false
        have hlook2 := run_look (P := Tryd.prog) keyL_pair Tryd.underlying49 (z := .int .i64 0) (fun u => by kernel_rfl) hM3 (p1, p2) false
        rw [hget] at hlook2
        rw [HD.out, HDD.out] at hent hlookD hlook2
        simp only [Bool.false_eq_true, if_false, Option.getD_none, Option.getD_some] at hent hlookD hlook2
        have HM4 := Lib.hid hM4
        have HG2 := Lib.hid hgrow2
        have HG3 := Lib.hid hgrow3
        have HZ2 := Lib.hid hsz2
        have HZ3 := Lib.hid hsz3
        have HGET := Lib.hid hget
        clear hM4 hgrow2 hgrow3 hsz2 hsz3 hget hst hM3
        go_wp2_with fail
        go_region
        go_wp2_with fail
        go_roundw
        case rel =>
          have hbx := HB2.out.drew.grown HG2.out HB2.out.size (fun k hk => by cases hk; omega)
          have hby := hbx.grown HG3.out hbx.size (fun k hk => by cases hk; omega)
          refine ⟨k + 1, putK L (p1, p2) (.int .i64 1), by omega, by go_num, hby, (((HB1.out.alloc _).drew).grown HG2.out (by simp)).grown HG3.out (by simp), HM4.out, ?_, ?_⟩
          · have := seen_put (e := e) HS.out
            rw [HPE.out] at this
            rw [List.take_succ_eq_append_getElem hkl, ← HE.out]
            exact this
          · rw [HR.out, HC5.out]; rfl
        case measure => simp [intOf]; omega
      · rw [HPE.out] at hd
        have HDD := Lib.hid hd
        rw [hd] at hlook
        simp only [if_true, Option.getD_some, Bool.false_eq_true, if_false] at hlook
        clear hd
        go_wp2_with fail
        go_ret
        exact ⟨ret_i64 (by rw [HM.out, HR.out, HC3.out, HPE.out, HDD.out]; rfl), HB2.out⟩
    · have hl' : l.drop k = [] := List.drop_eq_nil_of_le (by rw [HL.out]; omega)
      rw [hl'] at hgf
      have HK := Lib.hid hgf
      clear hgf
      go_wp2_with fail
      go_ret
      exact ⟨ret_i64 (by rw [HM.out, ← HK.out]; rfl), hb⟩
end Go.Proofs.YtbbdiondhnmnaaaDoor
