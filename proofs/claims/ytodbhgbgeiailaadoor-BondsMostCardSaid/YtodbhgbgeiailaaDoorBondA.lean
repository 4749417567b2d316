/- The most edges that some nodes can have: the program's search by a table. Conditions: the neighbours read as a list; the table holds what is right. -/
import Derived.Test.YtodbhgbgeiailaaDoorBondP
import Derived.Test.YtodbhgbgeiailaaDoorTurned
import Derived.Test.YtodbhgbgeiailaaDoorKeys
import Derived.Test.YtodbhgbgeiailaaDoorRegD
import Derived.Test.YtodbhgbgeiailaaDoorNear
import Derived.Test.YtodbhgbgeiailaaDoorOwnIn
namespace Go.Proofs.YtodbhgbgeiailaaDoor
open Go.RowKit Go.Shelf
attribute [local go_sem] Oper.semAt_some
attribute [local go_sem ↓] w_and w_or w_xor w_andNot w_and1 w_and255 w_xor1 w_or0 w_shl w_shl1 w_shr w_sub w_add w_sub1 w_add1
attribute [local go_sem] w_eq0 w_ne0 w_eq1 w_eq w_ne

theorem Held.low {ex : List Nat} {B : Nat} {a w w' : World} (h : Held ex a w) (k : Below B w w') (hb : a.heap.size ≤ B) : Held ex a w' :=
  ⟨k.os.trans h.os, k.tape.trans h.tape, k.output.trans h.output, Nat.le_trans h.size k.size, fun i hi hx => (k.block i (by omega)).trans (h.block i hi hx)⟩
theorem TabOk.held {ex : List Nat} {a w : World} (h : TabOk a) (hh : Held ex a w) (hx : 0 ∉ ex) : TabOk w := h.block hh.size (hh.block 0 h.1 hx)
abbrev kvW : BitVec 32 → Value := fun x => .int .u32 (wN x)
def Memo (f : BitVec 32 → Nat) (L : List (BitVec 32 × Value)) : Prop := ∀ x v, getK L x = some v → v = .int .i64 (f x)
theorem Memo.put {f : BitVec 32 → Nat} {L : List (BitVec 32 × Value)} (h : Memo f L) (x : BitVec 32) : Memo f (putK L x (.int .i64 (f x))) := fun y v hy => by
  by_cases e : y = x
  · subst e
    rw [getK_put_same] at hy
    injection hy with hy
    exact hy.symm
  · rw [getK_put_other L _ e] at hy
    exact h y v hy
theorem Memo.nil (f : BitVec 32 → Nat) : Memo f [] := fun x v h => by cases h
theorem bitB_but1 (x : BitVec 32) (i : Nat) (hi : i < 32) : (fun j : Int => bitB (wBut x (wShl w1 i)) j) = m1 (fun j : Int => bitB x j) i := by
  funext j
  show bitB (wBut x (wShl w1 i)) j = (bitB x j && decide (j ≠ (i : Int)))
  rcases Int.lt_or_le j 0 with h | h
  · have e : ∀ y : BitVec 32, bitB y j = false := fun y => by unfold bitB; simp; omega
    rw [e, e]
    rfl
  · obtain ⟨k, rfl⟩ := Int.eq_ofNat_of_zero_le h
    rw [bitB_nat, bitB_nat, b_but, b_one]
    by_cases hk : k = i
    · subst hk
      simp [hi]
    · have h1 : ¬ ((k : Int) = (i : Int)) := by omega
      simp [hk, h1]
theorem bits_fewer {x : BitVec 32} {i : Nat} (hi : x.getLsbD i = true) : (bitsL (wBut x (wShl w1 i))).length < (bitsL x).length := by
  have h32 : i < 32 := by
    rcases Nat.lt_or_ge i 32 with h | h
    · exact h
    · rw [b_ge x h] at hi; cases hi
  have hn : (i :: bitsL (wBut x (wShl w1 i))).Nodup := List.nodup_cons.2 ⟨fun hm => by
    rw [mem_bitsL, b_but, b_one] at hm
    simp [h32] at hm, List.nodup_range.filter _⟩
  have := hn.length_le_of_subset (l₂ := bitsL x) (fun j hj => by
    rcases List.mem_cons.1 hj with rfl | hj
    · exact mem_bitsL.2 hi
    · rw [mem_bitsL, b_but] at hj
      rw [mem_bitsL]
      simp at hj
      exact hj.1)
  rw [List.length_cons] at this
  omega
theorem bond_none : ∀ (es : List Ed) {p : Int → Bool}, (∀ x, p x = false) → bondF es p = 0
  | [], _, _ => rfl
  | e :: es, p, h => by
    unfold bondF
    rw [if_neg (fun hh => by rw [h] at hh; cases hh.1)]
    exact bond_none es h
abbrev bondW (es : List Ed) (x : BitVec 32) : Nat := bondF es (fun j : Int => bitB x j)
/-- By the lowest node: all that it may have. -/
theorem bond_low {N : Nat} {es : List Ed} {x : BitVec 32} (hg : GoodG N es) (hx : ∀ j, x.getLsbD j = true → j < N) {i : Nat} (hi : x.getLsbD i = true) : bondM es (fun j : Int => bitB x j) i (bitsL (wAnd (lw (nearL N es) i) (wBut x (wShl w1 i)))) = bondW es x := by
  refine bondM_all hg.ed (by rw [bitB_nat]; exact hi) fun j => ?_
  rw [mem_bitsL, b_and, near_bit hg (hx i hi), b_but, b_one, bitB_nat]
  have h32 : i < 32 := by have := hx i hi; have := hg.n10; omega
  by_cases hji : j = i
  · subst hji
    simp [h32]
  · simp [hji]

set_option maxRecDepth 100000 in
theorem bonds_many0 (es : List Ed) (P : Nat) (w : World) (r : Nat) (L : List (BitVec 32 × Value)) (hm : MapB w r kvW L) (hmem : Memo (bondW es) L) (ht : TabOk w) :
    Calls Tryd.prog 20 #[.pointer (some ⟨P, 0, none⟩), .int .u32 (wN w0)] w fun e w' => e = .returned (.int .i64 (bondW es w0)) ∧ Held [r] w w' ∧ TabOk w' ∧ ∃ L', MapB w' r kvW L' ∧ Memo (bondW es) L' := by
  have e0 : bondW es w0 = 0 := bond_none es fun x => by
    rcases Int.lt_or_le x 0 with h | h
    · unfold bitB; simp; omega
    · obtain ⟨k, rfl⟩ := Int.eq_ofNat_of_zero_le h
      rw [bitB_nat, b_0]
  rw [e0]
  go_enter Tryd.func20, Tryd.ntmps20
  go_wp2_with fail
  go_ret
  have hH : Held [r] w ((w.alloc (.cells #[.pointer (some ⟨P, 0, none⟩)] 44)).alloc (.cells #[.int .u32 (wN w0)] 43)) := ((Held.refl [r] w).alloc _).alloc _
  exact ⟨rfl, hH, ht.block hH.size (hH.block 0 ht.1 (fun h => by
    have : 0 = r := by simpa using h
    subst this
    obtain ⟨es', ck, hb, _⟩ := hm
    have h1 := ht.2 0 (by omega)
    unfold World.cell? at h1
    simp [hb] at h1)), L, (hm.alloc _).alloc _, hmem⟩
set_option maxRecDepth 100000 in
set_option maxHeartbeats 1000000 in
theorem bonds_many (N P r B c : Nat) (A : Option Addr) (es : List Ed) (hg : GoodG N es) (hBr : B ≤ r) (hr0 : 0 < r) : ∀ (k : Nat) (x : BitVec 32) (w : World) (L : List (BitVec 32 × Value)), (bitsL x).length ≤ k → (∀ j, x.getLsbD j = true → j < N) → Blk w P 48 #[.slice A N c, .map (some r)] → Els w B 1 wcell A (nearL N es) → B ≤ w.heap.size → MapB w r kvW L → Memo (bondW es) L → TabOk w →
    Calls Tryd.prog 20 #[.pointer (some ⟨P, 0, none⟩), .int .u32 (wN x)] w fun e w' => e = .returned (.int .i64 (bondW es x)) ∧ Held [r] w w' ∧ TabOk w' ∧ ∃ L', MapB w' r kvW L' ∧ Memo (bondW es) L' := by
  intro k
  induction k with
  | zero =>
    intro x w L hlen hxN hk hr hBw hm hmem ht
    have hx : x = w0 := by
      refine Classical.byContradiction fun h => ?_
      rw [bitsL_cons h] at hlen
      simp at hlen
    subst hx
    exact bonds_many0 es _ w r L hm hmem ht
  | succ k ih =>
    intro x w L hlen hxN hk hr hBw hm hmem ht
    by_cases hx0 : x = w0
    · subst hx0
      exact bonds_many0 es _ w r L hm hmem ht
    have hlook := fun (V : World) (hV : MapB V r kvW L) => run_look (P := Tryd.prog) (keyL_word Tryd.underlying43) Tryd.underlying46 (z := .int .i64 0) (fun u => by kernel_rfl) hV x true
    refine (callsIn_wide (n := 9)).1 ?_
    refine callsIn_of_wp_marks Tryd.func20 rfl trivial ?_ rfl
    simp only [Tryd.ntmps20, List.size_toArray, List.length_cons, List.length_nil, Nat.reduceAdd, Nat.reduceSub, Array.replicate_succ, Array.replicate_zero, List.push_toArray, List.append_toArray, List.nil_append, List.cons_append]
    obtain ⟨S, hS⟩ : ∃ S, S = w.heap.size := ⟨_, rfl⟩
    obtain ⟨W1, hW1⟩ : ∃ W1, W1 = (w.alloc (.cells #[.pointer (some ⟨P, 0, none⟩)] 44)).alloc (.cells #[.int .u32 (wN x)] 43) := ⟨_, rfl⟩
    have hH1 : Held [r] w W1 := by rw [hW1]; exact ((Held.refl [r] w).alloc _).alloc _
    have b0 := (Blk.new w 44 #[.pointer (some ⟨P, 0, none⟩)]).alloc (.cells #[.int .u32 (wN x)] 43)
    have b1 := Blk.new (w.alloc (.cells #[.pointer (some ⟨P, 0, none⟩)] 44)) 43 #[.int .u32 (wN x)]
    rw [size_alloc'] at b1
    rw [← hW1, ← hS] at b0 b1
    have hz1 : W1.heap.size = S + 1 + 1 := by rw [hW1, hS]; simp only [size_alloc']
    have hm1 : MapB W1 r kvW L := by rw [hW1]; exact (hm.alloc _).alloc _
    have hk1 : Blk W1 P 48 #[.slice A N c, .map (some r)] := by rw [hW1]; exact (hk.alloc _).alloc _
    have ht1 : TabOk W1 := ht.block (by rw [hW1]; simp only [size_alloc']; omega) (by rw [hW1]; exact (Below.heap_alloc _ _ _ (by rw [size_alloc']; have := ht.1; omega)).trans (Below.heap_alloc _ _ _ ht.1))
    have hr1 : Els W1 B 1 wcell A (nearL N es) := by rw [hW1]; exact (hr.alloc hBw _).alloc (by rw [size_alloc']; omega) _
    have hrS : r < S := by rw [hS]; exact hm.lt
    have hPS : P < S := by rw [hS]; exact hk.lt
    have hPr : P ≠ r := fun e => hm.ne_blk hk e.symm
    have c0 := b0.cell 0
    have c1 := b1.cell 0
    have hw1 := hlook W1.drew hm1.drew
    have cm := hk1.cell 1
    have cn := hk1.cell 0
    clear hlook hm hk ht hr
    have hx00 : (x == w0) = false := by simpa using hx0
    have HW1 := Lib.hid hW1
    have HS := Lib.hid hS
    have HH1 := Lib.hid hH1
    have HM1 := Lib.hid hm1
    have HK1 := Lib.hid hk1
    have HT1 := Lib.hid ht1
    have HR1 := Lib.hid hr1
    have HB0 := Lib.hid b0
    have HB1 := Lib.hid b1
    have HMEM := Lib.hid hmem
    rw [hW1] at c0 c1
    clear hH1 hm1 hk1 ht1 hr1 hmem hW1 b0 b1 hS
    gi_wp2_with fail
    rw [← HW1.out, ← HS.out]
    rw [← HW1.out] at c0 c1
    refine region_wide 99 11 (fun w' => w' = W1.drew) (by kernel_rfl) rfl ?_
    refine anyC_reads (by kernel_rfl) [0, 1, 2, 3, 4, 5, 6, 7, 8, 9, 10] ?opl ?ohl 0 _ _ _ (by kernel_rfl) ?okk
    case ohl => (simp only [List.filterMap_cons, List.filterMap_nil, List.getElem?_toArray, List.getElem?_cons_zero, List.getElem?_cons_succ]; try rfl)
    repeat (
      refine readC_step (v := ?_) rfl (fun w' hw' => ?_) ?_
      rotate_left
      focus (subst hw'; go_simp; try with_reducible rfl)
      go_simp)
    refine readC_nil ?_
    refine anyC_end (by kernel_rfl) (.inr rfl) ?_
    cases hgk : getK L x with
    | some v =>
      have hv := HMEM.out x v hgk
      subst hv
      simp only [Option.getD_some, Option.isSome_some]
      gi_wp2_with fail
      refine bodyPostM_ret (B := S) (Marks.nil _ _) fun w' hw' => ⟨.int .i64 (bondW es x), by simp [results, Tryd.results20, go_sem], rfl, ?_⟩
      exact ⟨HH1.out.drew1.low hw'.1 (by rw [HS.out]; exact Nat.le_refl _), (HT1.out.drewN 1).below hw'.1 (by omega), L, (HM1.out.drew).below hw'.1 hrS, HMEM.out⟩
    | none =>
      simp only [Option.getD_none, Option.isSome_none]
      gi_wp2_with fail
      refine wide_call2 ((TrailingZeros32_ne x _ hx0 (HT1.out.drewN 1)).mono ?_)
      rintro e W3 ⟨rfl, rfl⟩
      obtain ⟨i, hi⟩ : ∃ i, i = tz x := ⟨_, rfl⟩
      have hib : x.getLsbD i = true := by rw [hi]; exact tz_bit hx0
      rw [← hi]
      have hiN := hxN i hib
      clear hi
      gi_wp2_with fail
      have hi32 : i < 32 := by have := hg.n10; omega
      have h1i := HB1.out
      have f1 := h1i.frozen 0
      have hPl := HK1.out
      obtain ⟨y, hy⟩ : ∃ y, y = wBut x (wShl w1 i) := ⟨_, rfl⟩
      have hyl : (bitsL y).length ≤ k := by have := bits_fewer hib; rw [← hy] at this; omega
      have hyN : ∀ j, y.getLsbD j = true → j < N := fun j hj => by
        rw [hy, b_but] at hj
        simp at hj
        exact hxN j hj.1
      have HY := Lib.hid hy
      have HGK := Lib.hid hgk
      clear hw1
      refine region_wide 4 5 (fun w' => w' = W1.drew.drew) (by kernel_rfl) rfl ?_
      refine anyC_reads (by kernel_rfl) [0, 1, 2, 3] ?op2 ?oh2 1 _ _ _ (by kernel_rfl) ?ok2
      case oh2 => (simp only [List.filterMap_cons, List.filterMap_nil, List.getElem?_toArray, List.getElem?_cons_zero, List.getElem?_cons_succ]; try rfl)
      repeat (
        refine readC_step (v := ?_) rfl (fun w' hw' => ?_) ?_
        rotate_left
        focus (subst hw'; go_simp; try with_reducible rfl)
        go_simp)
      refine readC_nil ?_
      refine anyC_one (i := 4) (by kernel_rfl) rfl rfl (.inr rfl) ?_
      go_simp
      refine anyC_end (by kernel_rfl) (.inl rfl) ?_
      obtain ⟨W2, hW2⟩ : ∃ W2, W2 = (W1.drewN 2).setCell ⟨S + 1, 0, none⟩ (.int .u32 (wN (wBut x (wShl w1 i)))) := ⟨_, rfl⟩
      rw [← hW2]
      rw [← hy] at hW2
      have hbl : Below S W1 W2 := by rw [hW2]; exact (below_drewN (Below.refl S W1) 2).setCell (p := ⟨S + 1, 0, none⟩) (show S ≤ S + 1 by omega) _
      have hHw2 : Held [r] w W2 := HH1.out.low hbl (by rw [HS.out]; exact Nat.le_refl _)
      have b02 : Blk W2 S 44 #[.pointer (some ⟨P, 0, none⟩)] := by rw [hW2]; exact (HB0.out.drewN 2).far (p := ⟨S + 1, 0, none⟩) (show S ≠ S + 1 by omega) _
      have b12 : Blk W2 (S + 1) 43 #[.int .u32 (wN y)] := by rw [hW2]; exact (HB1.out.drewN 2).put 0 _
      have hm2 : MapB W2 r kvW L := HM1.out.below hbl hrS
      have hk2 : Blk W2 P 48 #[.slice A N c, .map (some r)] := HK1.out.below hbl hPS
      have hr2 : Els W2 B 1 wcell A (nearL N es) := HR1.out.below (hbl.mono (by omega))
      have ht2 : TabOk W2 := HT1.out.below hbl (by omega)
      have hz2 : W2.heap.size = S + 2 := by rw [hW2]; simp only [World.size_setCell]; exact hz1
      have HREC := Lib.hid (ih y W2 L hyl hyN hk2 hr2 (by omega) hm2 HMEM.out ht2)
      have c02 := b02.cell 0
      have c12 := b12.cell 0
      have HW2 := Lib.hid hHw2
      have HB02 := Lib.hid b02
      have HB12 := Lib.hid b12
      have HK2 := Lib.hid hk2
      have HR2 := Lib.hid hr2
      clear hW2 hbl hHw2 b02 b12 hm2 hk2 hr2 ht2 hgk c0 c1 cm cn f1 h1i hPl HW1 HH1 HM1 HK1 HT1 HR1 HB0 HB1 hz1
      rw [← HY.out]
      clear hy
      gi_wp2_with fail
      refine wide_call2 (HREC.out.mono ?_)
      clear HREC
      rintro e W3 ⟨rfl, hH3, ht3, L3, hm3, hmem3⟩
      obtain ⟨m0, hm0⟩ : ∃ m0, m0 = bondW es y := ⟨_, rfl⟩
      rw [← hm0]
      obtain ⟨T, hT⟩ : ∃ T, T = W3.heap.size := ⟨_, rfl⟩
      have hrn : S ∉ [r] := by simp; omega
      have hrn1 : S + 1 ∉ [r] := by simp; omega
      have b03 := Blk.held hH3 HB02.out hrn
      have b13 := Blk.held hH3 HB12.out hrn1
      have hk3 := Blk.held hH3 HK2.out (by simpa using hPr)
      have hr3 : Els W3 B 1 wcell A (nearL N es) := HR2.out.below (hH3.to (by omega) (by simp; omega))
      have hTs : S + 2 ≤ T := by rw [hT, ← hz2]; exact hH3.size
      obtain ⟨W4, hW4⟩ : ∃ W4, W4 = W3.alloc (.cells #[.int .i64 (m0 : Nat)] 3) := ⟨_, rfl⟩
      have hz4 : W4.heap.size = T + 1 := by rw [hW4, size_alloc', hT]
      have bT4 : Blk W4 T 3 #[.int .i64 (m0 : Nat)] := by rw [hW4, hT]; exact Blk.new W3 _ _
      have hH4 : Held [r] W2 W4 := by rw [hW4]; exact hH3.alloc _
      have b04 : Blk W4 S 44 #[.pointer (some ⟨P, 0, none⟩)] := by rw [hW4]; exact b03.alloc _
      have b14 : Blk W4 (S + 1) 43 #[.int .u32 (wN y)] := by rw [hW4]; exact b13.alloc _
      have hk4 : Blk W4 P 48 #[.slice A N c, .map (some r)] := by rw [hW4]; exact hk3.alloc _
      have hm4 : MapB W4 r kvW L3 := by rw [hW4]; exact hm3.alloc _
      have hr4 : Els W4 B 1 wcell A (nearL N es) := by rw [hW4]; exact hr3.alloc (by omega) _
      have ht4 : TabOk W4 := by rw [hW4]; exact ht3.held ((Held.refl [r] W3).alloc _) (by simp; omega)
      obtain ⟨nb, no, hA, hnb, g0⟩ := hr4.at1 (k := i) (by rw [nearL_length]; exact hiN)
      rw [← lw_at (nearL N es) i (by rw [nearL_length]; exact hiN)] at g0
      obtain ⟨ni, hni⟩ : ∃ ni, ni = lw (nearL N es) i := ⟨_, rfl⟩
      rw [← hni] at g0
      rw [hA] at hk4
      have HW4 := Lib.hid hW4
      have HT := Lib.hid hT
      have HH4 := Lib.hid (HW2.out.then hH4 (by simp))
      have HB04 := Lib.hid b04
      have HB14 := Lib.hid b14
      have HBT4 := Lib.hid bT4
      have HK4 := Lib.hid hk4
      have HM4 := Lib.hid hm4
      have HR4 := Lib.hid hr4
      have HT4 := Lib.hid ht4
      have HNI := Lib.hid hni
      have HMEM3 := Lib.hid hmem3
      have HM0 := Lib.hid hm0
      have HA := Lib.hid hA
      have c0 := b04.cell 0
      have c1 := b14.cell 0
      have cT := bT4.cell 0
      have cn := hk4.cell 0
      clear hW4 hT hH3 hH4 b03 b13 hk3 hr3 hm3 b04 b14 bT4 hk4 hm4 hr4 ht4 hni hmem3 hm0 ht3 HB02 HB12 HK2 HR2 HW2 hz2 c02 c12 hA HMEM
      gi_wp2_with fail
      rw [← HT.out, ← HW4.out]
      clear HW4
      refine region_wide 9 10 (fun w' => w' = W4.drew) (by kernel_rfl) rfl ?_
      refine anyC_reads (by kernel_rfl) [0, 1, 2, 3, 4, 5, 6, 7, 8] ?op3 ?oh3 1 _ _ _ (by kernel_rfl) ?ok3
      case oh3 => (simp only [List.filterMap_cons, List.filterMap_nil, List.getElem?_toArray, List.getElem?_cons_zero, List.getElem?_cons_succ]; try rfl)
      repeat (
        refine readC_step (v := ?_) rfl (fun w' hw' => ?_) ?_
        rotate_left
        focus (subst hw'; go_simp; try with_reducible rfl)
        go_simp)
      refine readC_nil ?_
      refine anyC_one (i := 9) (by kernel_rfl) rfl rfl (.inr rfl) ?_
      go_simp
      refine (graph_Each (wAnd ni y) _).mono ?_
      rintro e W5 ⟨rfl, rfl⟩
      go_simp
      refine anyC_end (by kernel_rfl) (.inl (by kernel_rfl)) ?_
      gi_wp2_with fail
      obtain ⟨xs, hxs⟩ : ∃ xs, xs = bitsL (wAnd ni y) := ⟨_, rfl⟩
      obtain ⟨W5, hW5⟩ : ∃ W5, W5 = (W4.alloc (.cells #[.int .u32 (wN (wAnd ni y))] 43)).drew := ⟨_, rfl⟩
      have hH45 : Held [r] W4 W5 := by rw [hW5]; exact ((Held.refl [r] W4).alloc _).drew1
      have hz5 : W5.heap.size = T + 2 := by rw [hW5]; show (W4.alloc _).heap.size = _; rw [size_alloc', hz4]
      have bX5 : Boxed W5 (T + 1) 43 (.int .u32 (wN (wAnd ni y))) := by
        have := (Blk.new W4 43 #[.int .u32 (wN (wAnd ni y))]).drew
        rw [hz4, ← hW5] at this
        exact this
      have hrn5 : ∀ k, k < T + 2 → k ≠ r → k ≠ T → k ≠ T + 1 → k ∉ [r, T, T + 1] := fun k h1 h2 h3 h4 => by simp; omega
      have b05 := Blk.held hH45 HB04.out hrn
      have b15 := Blk.held hH45 HB14.out hrn1
      have bT5 := Blk.held hH45 HBT4.out (by simp; omega)
      have hk5 := Blk.held hH45 HK4.out (by simpa using hPr)
      have hm5 : MapB W5 r kvW L3 := by rw [hW5]; exact ((HM4.out.alloc _).drew)
      have hr5 : Els W5 B 1 wcell A (nearL N es) := HR4.out.below (hH45.to (by omega) (by simp; omega))
      have ht5 : TabOk W5 := HT4.out.held hH45 (by simp; omega)
      rw [← hW5]
      have HW5 := Lib.hid hW5
      have HXS := Lib.hid hxs
      have HH5 := Lib.hid (HH4.out.then hH45 (by simp))
      have HB05 := Lib.hid b05
      have HB15 := Lib.hid b15
      have HBT5 := Lib.hid bT5
      have HBX5 := Lib.hid bX5
      have HK5 := Lib.hid hk5
      have HM5 := Lib.hid hm5
      have HR5 := Lib.hid hr5
      clear hW5 hH45 b05 b15 bT5 hk5 hm5 hr5 c0 c1 cT cn HB04 HB14 HBT4 HK4 HM4 HR4 HT4 HH4 hxs
      refine wpIn_bitsF (p := 42) (q := 9) 9 39 (T + 1) 43 (.int .u32 (wN (wAnd ni y))) (bitsL (wAnd ni y)) [r, T, T + 1] rfl (enters_of Tryd.func39 (by kernel_rfl) rfl)
        (Each1_seq _ _ _ (by omega)) bX5 ht5 (by simp) (fun pre W => (∃ L, MapB W r kvW L ∧ Memo (bondW es) L) ∧ Blk W T 3 #[.int .i64 ((bondM es (fun j : Int => bitB x j) i pre : Nat) : Int)])
        ?own (fun s X v h => ⟨by obtain ⟨L, h1, h2⟩ := h.1; exact ⟨L, h1.setCell _ _, h2⟩, h.2.far (p := ⟨T + 1, 0, none⟩) (show T ≠ T + 1 by omega) _⟩) ?ini ?assign ?body ?done
      case own =>
        rintro pre X Y row ⟨⟨L, h1, h2⟩, h3⟩ hgr hrow
        exact ⟨⟨L, h1.grown hgr (fun e => by have := (hrow r e.symm).1; omega), h2⟩, blk_kept h3 hgr (fun q e => (hrow q e).2)⟩
      case ini =>
        refine ⟨⟨L3, HM5.out, HMEM3.out⟩, ?_⟩
        have e : bondM es (fun j : Int => bitB x j) i [] = m0 := by
          show bondF es (m1 (fun j : Int => bitB x j) i) = m0
          rw [HM0.out, ← bitB_but1 x i hi32, ← HY.out]
        rw [e]
        exact HBT5.out
      case assign =>
        intro l' j W Kx hKx
        simp only [List.setIfInBounds_toArray, List.set_cons_succ, List.set_cons_zero] at hKx ⊢
        gi_wp2_with fail
        exact hKx
      case body =>
        intro l' pre j W hh hi hpre
        obtain ⟨⟨L, hm, hme⟩, hbT⟩ := hi
        simp only [List.setIfInBounds_toArray, List.set_cons_succ, List.set_cons_zero]
        have hjx : (wAnd ni y).getLsbD j = true := by
          obtain ⟨z, hz⟩ := hpre
          exact mem_bitsL.1 (by rw [← hz]; simp)
        have hjy : y.getLsbD j = true := by rw [b_and] at hjx; simp at hjx; exact hjx.2
        have hj32 : j < 32 := by have := hyN j hjy; have := hg.n10; omega
        obtain ⟨z, hz⟩ : ∃ z, z = wBut y (wShl w1 j) := ⟨_, rfl⟩
        have hzl : (bitsL z).length ≤ k := by have := bits_fewer hjy; rw [← hz] at this; omega
        have hzN : ∀ j, z.getLsbD j = true → j < N := fun q hq => by
          rw [hz, b_but] at hq
          simp at hq
          exact hyN q hq.1
        have b0W := Blk.held hh HB05.out (hrn5 S (by omega) (by omega) (by omega) (by omega))
        have b1W := Blk.held hh HB15.out (hrn5 (S + 1) (by omega) (by omega) (by omega) (by omega))
        have hkW := Blk.held hh HK5.out (hrn5 P (by omega) hPr (by omega) (by omega))
        have hrW : Els W B 1 wcell A (nearL N es) := HR5.out.below (hh.to (by omega) (by simp; omega))
        have htW : TabOk W := ht5.held hh (by simp; omega)
        have hzW : T + 2 ≤ W.heap.size := by rw [← hz5]; exact hh.size
        have HREC := Lib.hid (ih z W.drew L hzl hzN (by rw [HA.out]; exact hkW.drew) hrW.drew (by show B ≤ W.heap.size; omega) hm.drew hme (htW.drewN 1))
        obtain ⟨mm, hmm⟩ : ∃ mm, mm = bondM es (fun j : Int => bitB x j) i pre := ⟨_, rfl⟩
        obtain ⟨n, hn⟩ : ∃ n, n = bondW es z := ⟨_, rfl⟩
        have hn45 : n ≤ 45 := by rw [hn]; exact Nat.le_trans (bond_len _ _) hg.m45
        rw [← hmm] at hbT
        rw [← hn] at HREC
        have HMM : Hid (bondM es (fun j : Int => bitB x j) i (pre ++ [j]) = max mm (1 + n)) := Lib.hid (by
          rw [bondM_snoc, ← hmm, hn]
          show max mm (1 + bondF es (m1 (m1 (fun j : Int => bitB x j) i) j)) = _
          rw [← bitB_but1 x i hi32, ← HY.out, ← bitB_but1 y j hj32, ← hz])
        have hwn : IntKind.i64.wrap (1 + (n : Int)) = 1 + n := IntWalk.i64_in _ (by omega)
        have HHW := Lib.hid hh
        have HB0W := Lib.hid b0W
        have HB1W := Lib.hid b1W
        have HBTW := Lib.hid hbT
        have HMW := Lib.hid hm
        have fT := hbT.frozen 0
        have HZZ := Lib.hid hz
        have hCW : W.drew.cell? ⟨T, 0, none⟩ = some (.int .i64 mm) ∧ W.drew.cell? ⟨S, 0, none⟩ = some (.pointer (some ⟨P, 0, none⟩)) ∧ W.drew.cell? ⟨S + 1, 0, none⟩ = some (.int .u32 (wN y)) := ⟨hbT.drew.cell 0, b0W.drew.cell 0, b1W.drew.cell 0⟩
        clear hh hm hme hbT b0W b1W hkW hrW htW hmm hn hpre hjx hjy hz
        gi_wp2_with fail
        refine region_round 9 10 (fun V => V.cell? ⟨T, 0, none⟩ = some (.int .i64 mm) ∧ V.cell? ⟨S, 0, none⟩ = some (.pointer (some ⟨P, 0, none⟩)) ∧ V.cell? ⟨S + 1, 0, none⟩ = some (.int .u32 (wN y))) (by kernel_rfl) rfl (by kernel_rfl) ?_
        refine anyC_reads (by kernel_rfl) [0, 1, 2, 3, 4, 5] ?op4 ?oh4 4 _ _ _ (by kernel_rfl) ?ok4
        case oh4 => (simp only [List.filterMap_cons, List.filterMap_nil, List.getElem?_toArray, List.getElem?_cons_zero, List.getElem?_cons_succ]; try rfl)
        case ok4 =>
          repeat (
            refine readC_step (v := ?_) rfl (fun w' hw' => ?_) ?_
            rotate_left
            focus (obtain ⟨q0, q1, q2⟩ := hw'; go_simp; try with_reducible rfl)
            go_simp)
          refine readC_nil ?_
          refine anyC_one (i := 6) (by kernel_rfl) rfl rfl (.inr hCW) ?_
          go_simp
          rw [← HZZ.out]
          refine HREC.out.mono ?_
          clear HREC
          rintro e W6 ⟨rfl, hH6, ht6, L6, hm6, hme6⟩
          have bT6 := Blk.held hH6 (HBTW.out.drew) (by simp; omega)
          have b06 := Blk.held hH6 (HB0W.out.drew) hrn
          have b16 := Blk.held hH6 (HB1W.out.drew) hrn1
          have hC6 : W6.cell? ⟨T, 0, none⟩ = some (.int .i64 mm) ∧ W6.cell? ⟨S, 0, none⟩ = some (.pointer (some ⟨P, 0, none⟩)) ∧ W6.cell? ⟨S + 1, 0, none⟩ = some (.int .u32 (wN y)) := ⟨bT6.cell 0, b06.cell 0, b16.cell 0⟩
          have f6 := bT6.frozen 0
          have c6 := bT6.cell 0
          have HEND : Hid (∀ (a : Act) (u : Int), u = (max mm (1 + n) : Nat) → ownPostG (T + 2) (KpE (T + 1) 43) (fun s W => Held [r, T, T + 1] W5 W ∧ (∃ L, MapB W r kvW L ∧ Memo (bondW es) L) ∧ Blk W T 3 #[.int .i64 ((bondM es (fun j : Int => bitB x j) i s : Nat) : Int)]) (fun _ _ _ => False) (pre ++ [j]) W .normal a (W6.setCell ⟨T, 0, none⟩ (.int .i64 u))) := Lib.hid fun a u hu => by
            have hHall : Held [r, T, T + 1] W (W6.setCell ⟨T, 0, none⟩ (.int .i64 u)) := by
              have h1 : Held [r] W W6 := (Held.refl [r] W).drew1.then hH6 (by simp)
              exact (h1.mono (ex' := [r, T, T + 1]) (by simp)).setCell (p := ⟨T, 0, none⟩) (by simp) _
            have hTT : Held [r, T] W (W6.setCell ⟨T, 0, none⟩ (.int .i64 u)) := by
              have h1 : Held [r] W W6 := (Held.refl [r] W).drew1.then hH6 (by simp)
              exact (h1.mono (ex' := [r, T]) (by simp)).setCell (p := ⟨T, 0, none⟩) (by simp) _
            refine ⟨⟨hHall.size, fun k' o hk' ho hc => (hTT.block k' (lt_of_block ho) ?_).trans ho⟩, ⟨fun v hv => hTT.boxed hv (by simp; omega), fun htb => htb.held hTT (by simp; omega)⟩, HHW.out.then hHall (by simp), ⟨L6, hm6.setCell _ _, hme6⟩, ?_⟩
            · simp; omega
            · rw [HMM.out, ← hu]
              exact bT6.put 0 _
          clear hH6 ht6 hm6 hme6 bT6 b06 b16
          go_simp
          refine anyC_one (i := 7) (by kernel_rfl) rfl rfl (.inr hC6) ?_
          go_simp
          refine anyC_one (i := 8) (by kernel_rfl) rfl rfl (.inr hC6) ?_
          go_simp
          refine anyC_one (i := 9) (by kernel_rfl) rfl rfl (.inr hC6) ?_
          go_simp
          refine anyC_end (by kernel_rfl) (.inl (by kernel_rfl)) ?_
          gi_wp2_with fail
          all_goals
            refine HEND.out _ _ ?_
            omega
      case done =>
        intro D W hD hh hi hdef
        obtain ⟨⟨L, hm, hme⟩, hbT⟩ := hi
        have hall : bondM es (fun j : Int => bitB x j) i (bitsL (wAnd ni y)) = bondW es x := by rw [HNI.out, HY.out]; exact bond_low hg hxN hib
        rw [hall] at hbT
        obtain ⟨res, hres⟩ : ∃ res, res = bondW es x := ⟨_, rfl⟩
        rw [← hres] at hbT
        have b0W := Blk.held hh HB05.out (hrn5 S (by omega) (by omega) (by omega) (by omega))
        have b1W := Blk.held hh HB15.out (hrn5 (S + 1) (by omega) (by omega) (by omega) (by omega))
        have hkW := Blk.held hh HK5.out (hrn5 P (by omega) hPr (by omega) (by omega))
        have hxy : wOr y (wShl w1 i) = x := by
          rw [HY.out]
          apply BitVec.eq_of_getLsbD_eq
          intro q hq
          rw [b_or, b_but, b_one]
          by_cases hqi : q = i
          · subst hqi
            simp [hib, hi32]
          · simp [hqi]
        obtain ⟨W7, hput, hm7, hgr7, hsz7⟩ := run_put (P := Tryd.prog) (keyL_word Tryd.underlying43) Tryd.underlying46 (hm.drew) x (.int .i64 (res : Nat))
        have hme7 : Memo (bondW es) (putK L x (.int .i64 (res : Nat))) := by rw [hres]; exact hme.put x
        have hH7 : Held [r] W W7 := (Held.refl [r] W).drew1.turned hgr7 (by simp)
        have hHw : Held [r] w W7 := HH5.out.then ((hh.then hH7 (by simp)) : Held [r, T, T + 1] W5 W7) (by
          intro q hq hqs
          rw [← HS.out] at hqs
          simp only [List.mem_cons, List.not_mem_nil, or_false] at hq ⊢
          omega)
        have htW : TabOk W7 := (ht5.held hh (by simp; omega)).held hH7 (by simp; omega)
        have hmW : Marks S ({ target := .collected D, args := #[] } :: []) W := (Marks.nil S W5).cons rfl hD (by omega) (fun q hq he => by
          refine (hh.block q hq (fun hmm => ?_)).trans he
          simp only [List.mem_cons, List.not_mem_nil, or_false] at hmm
          rcases hmm with rfl | rfl | rfl
          · obtain ⟨es', ck, hb, _⟩ := HM5.out
            rw [hb] at he
            cases he
          · have := HBT5.out
            unfold Blk at this
            rw [he] at this
            cases this
          · exact Boxed.noMark HBX5.out he) hdef
        have hm7k : Marks S ({ target := .collected D, args := #[] } :: []) W7 := hH7.marks hmW (fun q hq => by
          simp only [List.mem_cons, List.not_mem_nil, or_false] at hq
          subst hq
          intro e
          obtain ⟨es', ck, hb, _⟩ := hm
          rw [e] at hb
          cases hb)
        have bT7 := Blk.held hH7 hbT (by simp; omega)
        have c0 := b0W.cell 0
        have c1 := b1W.cell 0
        have cT := hbT.cell 0
        have cm := hkW.cell 1
        have c7 := bT7.cell 0
        have HMM7 := Lib.hid hm7
        have HME7 := Lib.hid hme7
        have HHW := Lib.hid hHw
        have HTW := Lib.hid htW
        have HMK7 := Lib.hid hm7k
        have HRES := Lib.hid hres
        have HXY := Lib.hid hxy
        clear hall hres b0W b1W hkW hm7 hme7 hH7 hHw htW hmW hm7k bT7 hgr7 hsz7 hbT hm hme hh hdef hxy
        gi_wp2_with fail
        refine region_wide 9 10 (fun w' => w' = W.drew) (by kernel_rfl) rfl ?_
        refine anyC_reads (by kernel_rfl) [0, 1, 2, 3, 4, 5, 6, 7, 8] ?op5 ?oh5 1 _ _ _ (by kernel_rfl) ?ok5
        case oh5 => (simp only [List.filterMap_cons, List.filterMap_nil, List.getElem?_toArray, List.getElem?_cons_zero, List.getElem?_cons_succ]; try rfl)
        repeat (
          refine readC_step (v := ?_) rfl (fun w' hw' => ?_) ?_
          rotate_left
          focus (subst hw'; go_simp; try with_reducible rfl)
          go_simp)
        refine readC_nil ?_
        refine anyC_one (i := 9) (by kernel_rfl) rfl rfl (.inr rfl) ?_
        rw [← HXY.out] at hput
        go_simp
        refine anyC_end (by kernel_rfl) (.inl (by kernel_rfl)) ?_
        gi_wp2_with fail
        refine bodyPostM_ret HMK7.out fun w' hw' => ⟨.int .i64 (res : Nat), by simp [results, Tryd.results20, go_sem], by rw [HRES.out], HHW.out.low hw'.1 (by rw [HS.out]; exact Nat.le_refl _), ?_, ?_⟩
        · exact HTW.out.below hw'.1 (by omega)
        · exact ⟨_, HMM7.out.below hw'.1 hrS, HME7.out⟩
end Go.Proofs.YtodbhgbgeiailaaDoor
