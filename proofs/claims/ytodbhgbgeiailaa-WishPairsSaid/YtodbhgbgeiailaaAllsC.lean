/- All pairings that hold: the program's search. Conditions: the wishes are good. -/
import Derived.Test.YtodbhgbgeiailaaAllsB
import Derived.Test.YtodbhgbgeiailaaClone1
import Derived.Test.YtodbhgbgeiailaaWishA
namespace Go.Proofs.Ytodbhgbgeiailaa
open Go.RowKit
attribute [local go_sem ↓] s_and s_or s_but s_and1 s_shr s_shl1
attribute [local go_sem] s_eq0 s_ne0 s_eq1

theorem Contains_ints (x : Int) (A : Option Addr) (n c : Nat) (l : List Int) (B : Nat) (w : World) (hl : l.length = n) (hn : n ≤ maxLen) (hr : Els w B 1 icell A l) :
    Calls Try.prog 73 #[.slice A n c, .int .i64 x] w fun e w' => e = .returned (.bool (hasB l x)) ∧ w = w' := by
  have HI := Lib.hid (Index_ints x A n c l B w hl hn hr)
  have hx := idxI_has x l
  obtain ⟨i, hi⟩ : ∃ i, i = idxI x l := ⟨_, rfl⟩
  rw [← hi] at HI hx
  clear hi hl hr
  go_enter Try.func73, Try.ntmps73
  go_wp2_with fail
  refine HI.out.mono ?_
  clear HI
  rintro e w' ⟨rfl, rfl⟩
  cases hb : hasB l x with
  | true =>
    have h0 : 0 ≤ i := hx.2 hb
    have HH := Lib.hid hb
    clear hx hb
    go_wp2_with fail
    go_ret
    exact ⟨by rw [HH.out]; rfl, rfl⟩
  | false =>
    have h0 : ¬ 0 ≤ i := fun h => by rw [hx.1 h] at hb; cases hb
    have HH := Lib.hid hb
    clear hx hb
    go_wp2_with fail
    go_ret
    exact ⟨by rw [HH.out]; first | rfl | (show Ending.returned (.bool (decide (0 ≤ i))) = _; rw [decide_eq_false (by omega)]), rfl⟩
theorem map_flat : ∀ ct : List Int, ct.map (Value.int .i64) = ct.flatMap icell
  | [] => rfl
  | a :: t => by rw [List.map_cons, List.flatMap_cons, map_flat t]; rfl
/-- A row that lies from lo on. -/
def RowJ (lo : Nat) (w : World) (s : Sls Int) : Prop := RowI w s ∧ ∀ g, blkOf s.A = some g → lo ≤ g
/-- A block of numbers that begins with some. -/
def GlB (w : World) (gl : Nat) (ct : List Int) : Prop := ∃ cur : Array Value, Blk w gl 3 cur ∧ ∀ i, i < ct.length → cur[i]? = some (.int .i64 (ct.getD i 0))
theorem GlB.lt {w : World} {gl : Nat} {ct : List Int} (h : GlB w gl ct) : gl < w.heap.size := by obtain ⟨cur, hb, _⟩ := h; exact hb.lt
theorem GlB.below {w w' : World} {gl B : Nat} {ct : List Int} (h : GlB w gl ct) (hb : Below B w w') (hg : gl < B) : GlB w' gl ct := by obtain ⟨cur, hk, h1⟩ := h; exact ⟨cur, hk.below hb hg, h1⟩
theorem GlB.grown {w w' : World} {gl : Nat} {ct : List Int} {row : Option Nat} (h : GlB w gl ct) (hg : w.grownBy w' row) (hr : some gl ≠ row) : GlB w' gl ct := by obtain ⟨cur, hk, h1⟩ := h; exact ⟨cur, hk.grown hg hr, h1⟩
theorem GlB.far {w : World} {gl : Nat} {ct : List Int} (h : GlB w gl ct) {p : Addr} (hp : gl ≠ p.block) (u : Value) : GlB (w.setCell p u) gl ct := by obtain ⟨cur, hk, h1⟩ := h; exact ⟨cur, hk.far hp u, h1⟩
theorem GlB.ne {w : World} {gl k : Nat} {ct : List Int} {t : TypeId} {cs : Array Value} (h : GlB w gl ct) (hk : Blk w k t cs) (ht : t ≠ 3) : k ≠ gl := by obtain ⟨cur, hb, _⟩ := h; exact hk.differ hb ht
theorem GlB.cell {w : World} {gl : Nat} {ct : List Int} (h : GlB w gl ct) {i : Nat} (hi : i < ct.length) : w.cell? ⟨gl, i, none⟩ = some (.int .i64 (ct.getD i 0)) := by obtain ⟨cur, hb, h1⟩ := h; exact (hb.cell i).trans (h1 i hi)
theorem GlB.frozen {w : World} {gl : Nat} {ct : List Int} (h : GlB w gl ct) (i : Nat) : w.frozen? ⟨gl, i, none⟩ = false := by obtain ⟨cur, hb, _⟩ := h; exact hb.frozen i
theorem GlB.put {w : World} {gl : Nat} {ct : List Int} (h : GlB w gl ct) (i : Nat) (v : Int) : GlB (w.setCell ⟨gl, i, none⟩ (.int .i64 v)) gl (ct.set i v) := by
  obtain ⟨cur, hb, h1⟩ := h
  refine ⟨_, hb.put i _, fun j hj => ?_⟩
  rw [List.length_set] at hj
  rw [Array.getElem?_setIfInBounds, List.getD_eq_getElem?_getD, List.getElem?_set]
  have h2 := h1 j hj
  have h3 : j < cur.size := (Array.getElem?_eq_some_iff.1 h2).1
  by_cases hij : i = j
  · subst hij
    rw [if_pos rfl, if_pos h3, if_pos rfl, if_pos hj]
    rfl
  · rw [if_neg hij, if_neg hij, h2, List.getD_eq_getElem?_getD]
theorem GlB.els {w : World} {gl : Nat} {ct : List Int} (h : GlB w gl ct) : Els w w.heap.size 1 icell (some ⟨gl, 0, none⟩) ct := fun _ => by
  refine ⟨gl, 0, rfl, h.lt, fun i a ha j u hu => ?_⟩
  have hi : i < ct.length := (List.getElem?_eq_some_iff.1 ha).1
  have e : ct[i] = a := (List.getElem?_eq_some_iff.1 ha).2
  cases j with
  | zero =>
    have hu' : u = .int .i64 a := by simpa [icell] using hu.symm
    rw [hu', ← e, Nat.mul_one, Nat.add_zero, Nat.zero_add, ← getD_at ct i hi 0]
    exact h.cell hi
  | succ j => simp [icell] at hu
theorem GlB.of_own {w : World} {lo gl cap : Nat} {ct : List Int} (h : Own w lo 3 1 icell (some ⟨gl, 0, none⟩) cap ct) : GlB w gl ct := by
  have he := h.els
  rcases h.2.2 with hn | ⟨g', cp, cur, hv, hb', hg', r⟩
  · have := hn.1
    simp at this
  · have : gl = g' := by
      simp only [Value.slice.injEq, Option.some.injEq, Addr.mk.injEq] at hv
      exact hv.1.1
    subst this
    refine ⟨cur, hg', fun i hi => ?_⟩
    obtain ⟨b, off, e, _, f0⟩ := Els.at1 (f := fun x : Int => .int .i64 x) he hi
    simp only [Option.some.injEq, Addr.mk.injEq] at e
    obtain ⟨rfl, rfl, _⟩ := e
    have hk : Blk w gl 3 cur := hg'
    rw [hk.cell, Nat.zero_add] at f0
    rw [f0, getD_at ct i hi]
/-- The boxes of the search: what lies in them. -/
structure AllSt (w : World) (lo nb wb lb gl ab ob n cl cL cR : Nat) (AL AR : Option Addr) (ct : List Int) (A5 : Option Addr) (cap5 : Nat) (sls : List (Sls Int)) : Prop where
  kn : Blk w nb 3 #[.int .i64 n]
  kw : Blk w wb 38 #[.slice AL n cL, .slice AR n cR]
  kl : Blk w lb 39 #[.slice (some ⟨gl, 0, none⟩) n cl]
  ka : Blk w ab 36 #[.slice A5 sls.length cap5]
  ko : Blk w ob 101 #[.func (.func 70) #[] #[.pointer (some ⟨nb, 0, none⟩), .pointer (some ⟨wb, 0, none⟩), .pointer (some ⟨lb, 0, none⟩), .pointer (some ⟨ab, 0, none⟩), .pointer (some ⟨ob, 0, none⟩)]]
  g : GlB w gl ct
  own : Own w lo 39 1 rcell A5 cap5 sls
  rows : ∀ s ∈ sls, RowJ lo w s
structure AllAd (B lo nb wb lb gl ab ob : Nat) : Prop where
  bn : B ≤ nb
  bw : B ≤ wb
  bl : B ≤ lb
  bg : B ≤ gl
  ba : B ≤ ab
  bo : B ≤ ob
  ln : nb < lo
  lw : wb < lo
  ll : lb < lo
  lg : gl < lo
  la : ab < lo
  lo_ : ob < lo
  ng : nb ≠ gl
theorem RowJ.below {lo B : Nat} {w w' : World} {s : Sls Int} (h : RowJ lo w s) (hb : Below B w w') (hB : w.heap.size ≤ B) : RowJ lo w' s := ⟨h.1.below hb hB, h.2⟩
theorem AllSt.below {w w' : World} {lo nb wb lb gl ab ob n cl cL cR B : Nat} {AL AR : Option Addr} {ct : List Int} {A5 : Option Addr} {cap5 : Nat} {sls : List (Sls Int)} (h : AllSt w lo nb wb lb gl ab ob n cl cL cR AL AR ct A5 cap5 sls) (hb : Below B w w') (hB : w.heap.size ≤ B) : AllSt w' lo nb wb lb gl ab ob n cl cL cR AL AR ct A5 cap5 sls :=
  ⟨h.kn.below hb (Nat.lt_of_lt_of_le h.kn.lt hB), h.kw.below hb (Nat.lt_of_lt_of_le h.kw.lt hB), h.kl.below hb (Nat.lt_of_lt_of_le h.kl.lt hB), h.ka.below hb (Nat.lt_of_lt_of_le h.ka.lt hB), h.ko.below hb (Nat.lt_of_lt_of_le h.ko.lt hB), h.g.below hb (Nat.lt_of_lt_of_le h.g.lt hB), h.own.below hb hB, fun s hs => (h.rows s hs).below hb hB⟩
theorem AllSt.gEls {w : World} {lo nb wb lb gl ab ob n cl cL cR : Nat} {AL AR : Option Addr} {ct : List Int} {A5 : Option Addr} {cap5 : Nat} {sls : List (Sls Int)} (h : AllSt w lo nb wb lb gl ab ob n cl cL cR AL AR ct A5 cap5 sls) : Els w w.heap.size 1 icell (some ⟨gl, 0, none⟩) ct :=
  h.g.els
abbrev prgG (L R : List (Sls Int)) (n f : Nat) (l : List Int) (q : Nat) : List (List Int) := if prgJ L l ((q : Int) - 1) then prgA L R n f (l ++ [(q : Int) - 1]) else []
theorem prgG_len {L R : List (Sls Int)} {n f : Nat} {l : List Int} (hL : GoodL n L) (hR : GoodL n R) (hl : l.length + (f + 1) = n) : ∀ q, ((List.range q).flatMap (prgG L R n f l)).length ≤ q * (n + 1) ^ f := by
  intro q
  induction q with
  | zero => simp
  | succ q ih =>
    rw [flat_succ, List.length_append, Nat.succ_mul]
    have h2 : (prgG L R n f l q).length ≤ (n + 1) ^ f := by
      unfold prgG
      split
      · rw [prg_ref hL hR f _ (by rw [List.length_append, List.length_singleton]; omega)]
        exact refA_len L R n f _
      · simp
    omega

set_option maxRecDepth 100000 in
set_option maxHeartbeats 2000000 in
theorem alls_end (lo nb wb lb gl ab ob n cl cL cR B : Nat) (AL AR : Option Addr) (L R : List (Sls Int)) (hL : GoodL n L) (hR : GoodL n R) (had : AllAd B lo nb wb lb gl ab ob) (l : List Int) (x : Value) (w : World) (A5 : Option Addr) (cap5 : Nat) (sls : List (Sls Int)) (hl : l.length = n) (hlx : ∀ y ∈ l, -1 ≤ y ∧ y < n) (hlo : lo ≤ w.heap.size) (hwi : WishIn w B AL AR L R) (hst : AllSt w lo nb wb lb gl ab ob n cl cL cR AL AR l A5 cap5 sls) (hbd : sls.length + 1 ≤ 43046721) :
    Calls Try.prog 70 #[.int .i64 n, x, .pointer (some ⟨nb, 0, none⟩), .pointer (some ⟨wb, 0, none⟩), .pointer (some ⟨lb, 0, none⟩), .pointer (some ⟨ab, 0, none⟩), .pointer (some ⟨ob, 0, none⟩)] w fun e w' => (∃ v, e = .returned v) ∧ Below B w w' ∧ ∃ A6 cap6 sls6, AllSt w' lo nb wb lb gl ab ob n cl cL cR AL AR l A6 cap6 (sls ++ sls6) ∧ sls6.map (fun s => s.l) = prgA L R n 0 l := by
  have hn8 := hL.n8
  have hok : PairOk n l := ⟨hl, fun i hi => hlx (l.getD i 0) (by rw [getD_at l i (by omega)]; exact List.getElem_mem _)⟩
  have hBlo : B ≤ lo := by have := had.bn; have := had.ln; omega
  have hwi2 := hwi.more (show B ≤ w.heap.size by omega)
  have HC := Lib.hid (wish_holds AL AR (some ⟨gl, 0, none⟩) n cL cR cl L R l w hL hR hok hwi2.l hwi2.gl hwi2.r hwi2.gr hst.gEls)
  have cn := hst.kn.cell 0
  have cw0 := hst.kw.cell 0
  have cw1 := hst.kw.cell 1
  have cl0 := hst.kl.cell 0
  have HST := Lib.hid hst
  have HAD := Lib.hid had
  have HL := Lib.hid hl
  clear hst had hok hwi2 hwi hlx
  go_enter Try.func70, Try.ntmps70
  go_wp2_with fail
  refine HC.out.mono ?_
  clear HC
  rintro e v1 ⟨rfl, hb1⟩
  have hst1 := HST.out.below hb1 (Nat.le_refl _)
  have hz1 := hb1.size
  have hbB : Below B w v1 := hb1.mono (by omega)
  have HB1 := Lib.hid hbB
  cases hh : holdP L R l with
  | false =>
    have HP : Hid (prgA L R n 0 l = []) := Lib.hid (by unfold prgA; rw [hh]; rfl)
    have HST1 := Lib.hid hst1
    clear hh hst1 hb1 hbB
    go_wp2_with fail
    refine bodyPost_ret (results_none rfl _ _ _) rfl ?_
    exact ⟨⟨_, rfl⟩, HB1.out, A5, cap5, [], by rw [List.append_nil]; exact HST1.out, by rw [HP.out]; rfl⟩
  | true =>
    have HP : Hid (prgA L R n 0 l = [l]) := Lib.hid (by unfold prgA; rw [hh]; rfl)
    obtain ⟨q5, hq5⟩ : ∃ q5, q5 = sls.length := ⟨_, rfl⟩
    have hka := hst1.ka
    rw [← hq5] at hka
    have hq5b : q5 + 1 ≤ 43046721 := by omega
    have ca := hka.cell 0
    have cl1 := hst1.kl.cell 0
    have HCL := Lib.hid (Clone_ints (some ⟨gl, 0, none⟩) n cl l v1.drew hl (by omega) hst1.gEls.drew)
    have HST1 := Lib.hid hst1
    have HQ5 := Lib.hid hq5
    have hC : ∀ V, Below v1.heap.size v1 V → V.cell? ⟨ab, 0, none⟩ = some (.slice A5 q5 cap5) ∧ V.cell? ⟨lb, 0, none⟩ = some (.slice (some ⟨gl, 0, none⟩) n cl) := fun V hV => ⟨(hka.below hV hka.lt).cell 0, (HST1.out.kl.below hV HST1.out.kl.lt).cell 0⟩
    clear hh hst1 hb1 hbB hq5 hka
    go_wp2_with fail
    refine region_plain 5 6 (fun V => V.cell? ⟨ab, 0, none⟩ = some (.slice A5 q5 cap5) ∧ V.cell? ⟨lb, 0, none⟩ = some (.slice (some ⟨gl, 0, none⟩) n cl)) (by kernel_rfl) rfl ?_
    refine anyC_reads (by kernel_rfl) [0, 1] ?op1 ?oh1 4 _ _ _ (by kernel_rfl) ?ok1
    case oh1 => (simp only [List.filterMap_cons, List.filterMap_nil, List.getElem?_toArray, List.getElem?_cons_zero, List.getElem?_cons_succ]; try rfl)
    repeat (
      refine readC_step (v := ?_) rfl (fun w' hw' => ?_) ?_
      rotate_left
      focus (obtain ⟨q0, q1⟩ := hw'; go_simp; try with_reducible rfl)
      go_simp)
    refine readC_nil ?_
    refine anyC_one (i := 2) (by kernel_rfl) rfl rfl (.inr ⟨ca, cl1⟩) ?_
    go_simp
    refine HCL.out.mono ?_
    clear HCL
    rintro e v2 ⟨A', cap', rfl, hb2, how2⟩
    have hb12 : Below v1.heap.size v1 v2 := (Below.refl _ v1).drew.trans hb2
    have hz2 : v1.heap.size ≤ v2.heap.size := hb12.size
    have hb13 : Below v1.heap.size v1 (v2.alloc (.cells #[.slice A' n cap'] 39)) := hb12.alloc hz2 _
    have hst3 := HST1.out.below hb13 (Nat.le_refl _)
    have hkx := Blk.new v2 39 #[.slice A' n cap']
    have hrow3 : RowI (v2.alloc (.cells #[.slice A' n cap'] 39)) ⟨A', cap', l⟩ := (RowI.of_own how2).alloc _
    have hrowJ : ∀ g, blkOf A' = some g → lo ≤ g := fun g hg => by
      have := (how2.lt g hg).1
      have h2 : v1.heap.size ≤ g := this
      omega
    obtain ⟨A9, cap9, w9, happ9, how9, hgr9, _⟩ := run_append_els (P := Try.prog) 36 36 lo 1 39 (.slice none 0 0) 24 Try.underlying36 (by kernel_rfl) rfl (by omega) rcell (v2.alloc (.cells #[.slice A' n cap'] 39)) A5 q5 cap5 sls HQ5.out.symm hst3.own (some ⟨v2.heap.size, 0, none⟩) 1 1 [⟨A', cap', l⟩] rfl (v2.heap.size + 1)
      (fun _ => ⟨v2.heap.size, 0, rfl, by omega, fun i a ha k u hu => by
        cases i with
        | zero =>
          simp at ha
          subst ha
          cases k with
          | zero =>
            have hu1 : u = (⟨A', cap', l⟩ : Sls Int).val := by simpa using hu.symm
            have hu' : u = .slice A' n cap' := by rw [hu1]; show Value.slice A' l.length cap' = _; rw [HL.out]
            rw [hu']
            exact hkx.cell 0
          | succ k => simp at hu
        | succ i => simp at ha⟩)
      (fun u hu => by
        obtain ⟨a, _, ha⟩ := List.mem_flatMap.1 hu
        have hu2 : u = a.val := by simpa using ha
        rw [hu2]
        rfl) (by unfold maxLen; omega) (by omega) (by rw [size_alloc']; omega)
    have hne : ∀ g, blkOf A5 = some g → lo ≤ g := fun g hg => (hst3.own.lt g hg).1
    have hne2 : ∀ k, k < lo → some k ≠ blkOf A5 := fun k hk e => by have := hne k e.symm; omega
    have hka9 := hst3.ka.grown hgr9 (hne2 ab HAD.out.la)
    have ha9 := hka9.cell 0
    have hf9 := hka9.frozen 0
    have hfin : AllSt (w9.setCell ⟨ab, 0, none⟩ (.slice A9 (q5 + 1) cap9)) lo nb wb lb gl ab ob n cl cL cR AL AR l A9 cap9 (sls ++ [⟨A', cap', l⟩]) := by
      have hab : ∀ {k : Nat} {t : TypeId} {cs : Array Value}, Blk w9 k t cs → k ≠ ab → Blk (w9.setCell ⟨ab, 0, none⟩ (.slice A9 (q5 + 1) cap9)) k t cs := fun hk hne => hk.far (p := ⟨ab, 0, none⟩) hne _
      have hkn9 := hst3.kn.grown hgr9 (hne2 nb HAD.out.ln)
      have hkw9 := hst3.kw.grown hgr9 (hne2 wb HAD.out.lw)
      have hkl9 := hst3.kl.grown hgr9 (hne2 lb HAD.out.ll)
      have hko9 := hst3.ko.grown hgr9 (hne2 ob HAD.out.lo_)
      have hg9 := hst3.g.grown hgr9 (hne2 gl HAD.out.lg)
      refine ⟨hab hkn9 (hkn9.differ hka9 (by decide)), hab hkw9 (hkw9.differ hka9 (by decide)), hab hkl9 (hkl9.differ hka9 (by decide)), ?_, hab hko9 (hko9.differ hka9 (by decide)), hg9.far (p := ⟨ab, 0, none⟩) (hg9.ne hka9 (by decide)).symm _, how9.low (p := ⟨ab, 0, none⟩) HAD.out.la _, ?_⟩
      · rw [List.length_append, ← HQ5.out]
        exact hka9.put 0 _
      · intro s hs
        have h3 : RowJ lo (v2.alloc (.cells #[.slice A' n cap'] 39)) s := by
          rcases List.mem_append.1 hs with h | h
          · exact hst3.rows s h
          · rw [List.mem_singleton] at h
            subst h
            exact ⟨hrow3, hrowJ⟩
        refine ⟨?_, h3.2⟩
        have h9 : RowI w9 s := h3.1.grown hgr9 hst3.own (by decide)
        rcases h9 with h | ⟨g, off, cur, hA, hk, hc⟩
        · exact .inl h
        · exact .inr ⟨g, off, cur, hA, hab hk (hk.differ hka9 (by decide)), hc⟩
    have hbf : Below B w (w9.setCell ⟨ab, 0, none⟩ (.slice A9 (q5 + 1) cap9)) := by
      have h1 : Below B w (v2.alloc (.cells #[.slice A' n cap'] 39)) := HB1.out.trans (hb13.mono (by omega))
      exact (h1.grown hgr9 (by rw [size_alloc']; omega) (fun g e => by have := hne g e; omega)).setCell (p := ⟨ab, 0, none⟩) HAD.out.ba _
    have hC2 := hC v2 hb12
    have hC3 := hC _ hb13
    have hC9 : w9.cell? ⟨ab, 0, none⟩ = some (.slice A5 q5 cap5) ∧ w9.cell? ⟨lb, 0, none⟩ = some (.slice (some ⟨gl, 0, none⟩) n cl) := ⟨by rw [HQ5.out]; exact ha9, (hst3.kl.grown hgr9 (hne2 lb HAD.out.ll)).cell 0⟩
    have hCf : (w9.setCell ⟨ab, 0, none⟩ (.slice A9 (q5 + 1) cap9)).cell? ⟨ab, 0, none⟩ = some (.slice A9 (q5 + 1) cap9) := (hka9.put 0 _).cell 0
    have HFIN := Lib.hid hfin
    have HBF := Lib.hid hbf
    rw [← HQ5.out] at ha9
    clear hfin hbf hst3 hkx hrow3 hrowJ how9 hgr9 hne hne2 hka9 hb12 hb13 hb2 how2 hC HST1 HB1
    go_simp
    refine anyC_one (i := 3) (by kernel_rfl) rfl rfl (.inr hC2) ?_
    go_simp
    refine anyC_one (i := 4) (by kernel_rfl) rfl rfl (.inr hC3) ?_
    refine wp_append_run _ _ _ rfl _ _ rfl rfl _ _ happ9 ?_
    go_simp
    refine anyC_one (i := 5) (by kernel_rfl) rfl rfl (.inr hC9) ?_
    go_simp
    refine anyC_end (by kernel_rfl) (.inl (by kernel_rfl)) ?_
    clear happ9 hC2 hC3 hC9 hCf
    go_wp2_with fail
    refine bodyPost_ret (results_none rfl _ _ _) rfl ?_
    exact ⟨⟨_, rfl⟩, HBF.out, A9, cap9, [⟨A', cap', l⟩], HFIN.out, by rw [HP.out]; rfl⟩
end Go.Proofs.Ytodbhgbgeiailaa
