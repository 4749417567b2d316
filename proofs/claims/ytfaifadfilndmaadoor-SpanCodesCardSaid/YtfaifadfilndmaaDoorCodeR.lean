/- Is it a tree, and its code: the reference. Conditions: the edges read as a list and may be. -/
import Derived.Test.YtfaifadfilndmaaDoorLess
import Derived.Test.YtfaifadfilndmaaDoorDistA
import Derived.Test.YtfaifadfilndmaaDoorNear
import Derived.Test.YtfaifadfilndmaaDoorIntsOf
import Derived.Test.YtfaifadfilndmaaDoorOwnIn
import Derived.IntWalk
namespace Go.Proofs.YtfaifadfilndmaaDoor
open Go.RowKit

/-- Edges that lie below, or in a row of their own. -/
def EdA (S : Nat) (w : World) (A : Option Addr) (l : List Ed) : Prop := Els w S 3 Ed.cells A l ∨ ∃ c, Own w (S + 1) 62 3 Ed.cells A c l
theorem EdA.below {S : Nat} {w w' : World} {A : Option Addr} {l : List Ed} (h : EdA S w A l) (hb : Below w.heap.size w w') (hS : S ≤ w.heap.size) : EdA S w' A l := by
  rcases h with h | ⟨c, h⟩
  · exact .inl (h.below (hb.mono hS))
  · exact .inr ⟨c, h.below hb (Nat.le_refl _)⟩
theorem EdA.els {S : Nat} {w : World} {A : Option Addr} {l : List Ed} (h : EdA S w A l) (hS : S ≤ w.heap.size) : Els w w.heap.size 3 Ed.cells A l := by
  rcases h with h | ⟨c, h⟩
  · exact h.more hS
  · exact h.els
theorem EdA.grown {S B : Nat} {w w' : World} {A A3 : Option Addr} {l : List Ed} {c3 : Nat} {L : List Int} (h : EdA S w A l) (hb : Below S w w') (ho : Own w B 3 1 icell A3 c3 L) (hg : w.grownBy w' (blkOf A3)) : EdA S w' A l := by
  rcases h with h | ⟨c, h⟩
  · exact .inl (h.below hb)
  · exact .inr ⟨c, h.kept hg (h.apart ho (by decide))⟩
theorem EdA.setBox {S : Nat} {w : World} {A : Option Addr} {l : List Ed} (h : EdA S w A l) (k : Nat) (v : Value) : EdA S (w.setCell ⟨S, k, none⟩ v) A l := by
  rcases h with h | ⟨c, h⟩
  · exact .inl (h.below ((Below.refl S w).setCell (p := ⟨S, k, none⟩) (Nat.le_refl _) v))
  · exact .inr ⟨c, h.low (p := ⟨S, k, none⟩) (show S < S + 1 by omega) v⟩

noncomputable def treeB (N : Nat) (l : List Ed) : Bool := @decide (TreeP N l) (Classical.propDecidable _)
theorem treeB_true {N : Nat} {l : List Ed} (h : TreeP N l) : treeB N l = true := @decide_eq_true _ (Classical.propDecidable _) h
theorem treeB_false {N : Nat} {l : List Ed} (h : ¬ TreeP N l) : treeB N l = false := @decide_eq_false _ (Classical.propDecidable _) h
theorem treeB_is {N : Nat} {l : List Ed} (h : treeB N l = true) : TreeP N l := @of_decide_eq_true _ (Classical.propDecidable _) h

set_option maxRecDepth 100000 in
set_option maxHeartbeats 1000000 in
theorem ref_Tree (N : Nat) (A : Option Addr) (n c : Nat) (l : List Ed) (w : World) (hl : l.length = n) (hg : GoodG N l) (hr : Els w w.heap.size 3 Ed.cells A l) :
    Calls Tryd.prog 19 #[.agg #[.int .i64 N, .slice A n c]] w fun e w' => e = .returned (.bool (treeB N l)) ∧ Below w.heap.size w w' := by
  have hb0 := (Below.refl w.heap.size w).alloc (Nat.le_refl _) (.cells #[.int .i64 N, .slice A n c] 24)
  have hk0 := Blk.new w 24 #[.int .i64 N, .slice A n c]
  have hD := ref_Dist N A n c l (w.alloc (.cells #[.int .i64 N, .slice A n c] 24)) hl hg ((hr.below hb0).more hb0.size)
  have HD := Lib.hid hD
  have HB0 := Lib.hid hb0
  have c0 := hk0.cell 0
  have c1 := hk0.cell 1
  have hN10 := hg.n10
  have hm45 := hg.m45
  rw [hl] at hm45
  have HL := Lib.hid hl
  have hsz0 := hb0.size
  clear hr hb0 hk0 hl hD
  by_cases h2 : N < 2
  · have HT : Hid (treeB N l = false) := Lib.hid (treeB_false fun h => by have := h.1; omega)
    have h2' : (N : Int) < 2 := by omega
    go_enter Tryd.func19, Tryd.ntmps19
    go_wp2_with fail
    go_ret
    exact ⟨ret_bool (by rw [HT.out]), HB0.out⟩
  · have h2' : ¬ (N : Int) < 2 := by omega
    by_cases hnn : n + 1 = N
    · have hne : ((n : Int) != (N : Int) - 1) = false := by simp; omega
      go_enter Tryd.func19, Tryd.ntmps19
      go_wp2_with fail
      refine HD.out.mono ?_
      clear HD
      rintro e w1 ⟨A2, c2, P, M, rfl, hb1, hP, hmat, hdist⟩
      have HB1 := Lib.hid (HB0.out.trans (hb1.mono hsz0))
      obtain ⟨g, rfl, _, _, _, g0, _, _, hrow⟩ := hmat.at_ (i := 0) (by omega)
      have HROW := Lib.hid hrow
      have HDI := Lib.hid hdist
      obtain ⟨p0, hp0⟩ : ∃ p0, p0 = pAt P 0 := ⟨_, rfl⟩
      rw [← hp0] at g0 HROW
      clear hb1 hmat hdist hrow hp0
      go_wp2_with fail
      go_loop [22] (fun s22 => ∃ k : Nat, k ≤ N ∧ s22 = .int .i64 k ∧ ∀ j, j < k → Rch (Adj l) 0 j) (fun s22 => N - (intOf s22).toNat)
      case atStart => exact ⟨0, by omega, rfl, fun j hj => by omega⟩
      case round =>
        obtain ⟨k, hk, rfl, hall⟩ := hrel
        by_cases hlt : k < N
        · obtain ⟨c3, _⟩ := HROW.out k hlt
          have hd := HDI.out 0 k (by omega) hlt
          obtain ⟨d, hde⟩ : ∃ d, d = M 0 k := ⟨_, rfl⟩
          rw [← hde] at c3 hd
          have hpos := hd.pos
          have HALL := Lib.hid hall
          clear hall hd hde
          by_cases hd0 : d < 0
          · have HT : Hid (treeB N l = false) := Lib.hid (treeB_false fun h => by
              have := hpos.2 (h.2.2 k hlt)
              omega)
            clear hpos
            go_wp2_with fail
            go_ret
            exact ⟨ret_bool (by rw [HT.out]), HB1.out⟩
          · have hrc := hpos.1 (by omega)
            have HRC := Lib.hid hrc
            clear hpos hrc
            go_wp2_with fail
            go_round
            case rel => exact ⟨k + 1, by omega, by go_num, fun j hj => by
              by_cases e : j = k
              · rw [e]; exact HRC.out
              · exact HALL.out j (by omega)⟩
            case measure => simp [intOf]; omega
        · have HT : Hid (treeB N l = true) := Lib.hid (treeB_true ⟨by omega, by rw [HL.out]; exact hnn, fun x hx => hall x (by omega)⟩)
          clear hall
          go_wp2_with fail
          go_ret
          exact ⟨ret_bool (by rw [HT.out]), HB1.out⟩
    · have hne : ((n : Int) != (N : Int) - 1) = true := by simp; omega
      have HT : Hid (treeB N l = false) := Lib.hid (treeB_false fun h => by have := h.2.1; rw [HL.out] at this; omega)
      go_enter Tryd.func19, Tryd.ntmps19
      go_wp2_with fail
      go_ret
      exact ⟨ret_bool (by rw [HT.out]), HB0.out⟩

set_option maxRecDepth 100000 in
set_option maxHeartbeats 4000000 in
theorem ref_Code (N : Nat) (A : Option Addr) (n c : Nat) (l : List Ed) (w : World) (hl : l.length = n) (hg : GoodG N l) (hT : TreeP N l) (hr : Els w w.heap.size 3 Ed.cells A l) :
    Calls Tryd.prog 20 #[.agg #[.int .i64 N, .slice A n c]] w fun e w' => ∃ (A1 : Option Addr) (c1 : Nat), e = .returned (.slice A1 (N - 2 : Nat) c1) ∧ Below w.heap.size w w' ∧ Els w' w'.heap.size 1 icell A1 (intsOf (codeF N (N - 2) l)) := by
  obtain ⟨S, hS⟩ : ∃ S, S = w.heap.size := ⟨_, rfl⟩
  have hb0 := (Below.refl w.heap.size w).alloc (Nat.le_refl _) (.cells #[.int .i64 N, .slice A n c] 24)
  have hk0 := Blk.new w 24 #[.int .i64 N, .slice A n c]
  have hed : EdA S (w.alloc (.cells #[.int .i64 N, .slice A n c] 24)) A l := .inl (by rw [hS]; exact hr.below hb0)
  rw [← hS] at hb0 hk0 ⊢
  have hN10 := hg.n10
  have hN2 := hT.1
  have hlN := hT.2.1
  have htl := hT.tl hg
  have HTL := Lib.hid htl
  have HB0 := Lib.hid hb0
  have HK0 := Lib.hid hk0
  have HED := Lib.hid hed
  have HS := Lib.hid hS
  have HL := Lib.hid hl
  rw [hl] at hlN
  clear hr hb0 hk0 hed htl hS hl hg hT
  go_enter Tryd.func20, Tryd.ntmps20
  go_wp2_with fail
  rw [← HS.out]
  go_loopw [3] (fun s3 wr => ∃ (r : Nat) (A3 : Option Addr) (c3 : Nat) (pl : List Nat) (AE : Option Addr) (m cE : Nat) (lr : List Ed) (V : Nat → Bool), s3 = .slice A3 r c3 ∧ pl.length = r ∧ r ≤ N - 2 ∧ codeF N (N - 2) l = pl ++ codeF N (N - 2 - r) lr ∧ TL N lr V ∧ lr.length = m ∧ m + r + 1 = N ∧ Below S w wr ∧ Blk wr S 24 #[.int .i64 N, .slice AE m cE] ∧ EdA S wr AE lr ∧ Own wr (S + 1) 3 1 icell A3 c3 (intsOf pl)) (fun s3 _ => match s3 with | .slice _ r _ => N - r | _ => 0)
  case atStart => exact ⟨0, none, 0, [], A, n, c, l, _, rfl, rfl, by omega, rfl, HTL.out, HL.out, by omega, HB0.out, HK0.out, HED.out, Own.nil _ _ _ (fun _ => rfl)⟩
  case round =>
    clear HTL HB0 HK0 HED HL hlN
    rename World => wr
    obtain ⟨r, A3, c3, pl, AE, m, cE, lr, V, rfl, hpl, hr, hcode, htl, hlr, hmr, hb, hk, hed, ho⟩ := hrel
    have hz := hb.size
    rw [← HS.out] at hz
    have hklt := hk.lt
    have hg := htl.good
    have c0 := hk.cell 0
    have c1 := hk.cell 1
    have HPL := Lib.hid hpl
    have HCODE := Lib.hid hcode
    have HTL := Lib.hid htl
    have HLR := Lib.hid hlr
    have HB := Lib.hid hb
    have HK := Lib.hid hk
    have HED := Lib.hid hed
    have HO := Lib.hid ho
    have HG := Lib.hid hg
    have hmw : IntKind.i64.wrap ((N : Int) - 2) = (N : Int) - 2 := IntWalk.i64_in _ (by omega)
    clear hpl hcode hlr hb hk hed ho hg
    by_cases hlt : r < N - 2
    · have hlt1 : (r : Int) < (N : Int) - 2 := by omega
      obtain ⟨i, k, hkl, hiN, hdi, hbef, htch, hnot, hnext, hcf⟩ := htl.step (by rw [HLR.out]; omega)
      have hkm : k < m := by rw [← HLR.out]; exact hkl
      obtain ⟨ek, hek⟩ : ∃ ek, ek = lr[k] := ⟨_, rfl⟩
      rw [← hek] at htch hcf
      have HEK := Lib.hid hek
      clear hek
      have HBEF := Lib.hid hbef
      have HDI := Lib.hid hdi
      have HTCH := Lib.hid htch
      have HNOT := Lib.hid hnot
      have HNEXT := Lib.hid hnext
      have HCF := Lib.hid hcf
      have HKL := Lib.hid hkl
      have HDEG : Hid (∀ (w' : World) (v : Nat), Below wr.heap.size wr w' → Calls Tryd.prog 49 #[.agg #[.int .i64 N, .slice AE m cE], .int .i64 v] w' fun e w2 => e = .returned (.int .i64 (deg lr v)) ∧ Below w'.heap.size w' w2) := Lib.hid (fun w' v hb =>
        ref_Degree N v AE m cE lr w' HLR.out (by omega) ((HED.out.below hb hz).els (by have := hb.size; omega)))
      obtain ⟨T, hT⟩ : ∃ T, T = wr.heap.size := ⟨_, rfl⟩
      rw [← hT] at HDEG hz hklt
      have HT := Lib.hid hT
      clear htl hbef hdi htch hnot hnext hcf hT
      go_wp2_with fail
      go_loopw [4] (fun s4 w2 => ∃ v : Nat, v ≤ i ∧ s4 = .int .i64 v ∧ Below T wr w2) (fun s4 _ => N - (intOf s4).toNat)
      case atStart => exact ⟨0, by omega, rfl, Below.refl _ _⟩
      case round =>
        clear c0 c1
        rename World => w2
        obtain ⟨v, hv, rfl, hb2⟩ := hrel
        have hz2 := hb2.size
        rw [← HT.out] at hz2
        have hk2 := HK.out.below hb2 hklt
        have c0 := hk2.cell 0
        have c1 := hk2.cell 1
        have HB2 := Lib.hid hb2
        have HD := Lib.hid (HDEG.out w2 v hb2)
        obtain ⟨d, hd⟩ : ∃ d, d = deg lr v := ⟨_, rfl⟩
        rw [← hd] at HD
        have HDD := Lib.hid hd
        have HK2 := Lib.hid hk2
        clear hb2 hk2 hd
        by_cases hvi : v < i
        · have hd1 : ((d : Int) != 1) = true := by
            have := HBEF.out v hvi
            rw [← HDD.out] at this
            simp; omega
          go_wp2_with fail
          refine HD.out.mono ?_
          clear HD
          rintro e w3 ⟨rfl, hb3⟩
          have HB3 := Lib.hid (HB2.out.trans (hb3.mono hz2))
          clear hb3
          go_wp2_with fail
          go_roundw
          case rel => exact ⟨v + 1, by omega, by go_num, HB3.out⟩
          case measure => simp [intOf]; omega
        · obtain rfl : v = i := by omega
          have hd1 : ((d : Int) != 1) = false := by
            have := HDI.out
            rw [← HDD.out] at this
            simp; omega
          have hm0 : ((m : Int) == 0) = false := by simp; omega
          go_wp2_with fail
          refine HD.out.mono ?_
          clear HD
          rintro e w3 ⟨rfl, hb3⟩
          have hb3' := HB2.out.trans (hb3.mono hz2)
          have HB3 := Lib.hid hb3'
          have hk3 := HK2.out.below hb3 HK2.out.lt
          have HK3 := Lib.hid hk3
          clear c0 c1 HK2 HB2
          have c0 := hk3.cell 0
          have c1 := hk3.cell 1
          clear hb3 hb3' hk3
          go_wp2_with fail
          go_loopw [3, 28] (fun s3 s28 w4 => ∃ q : Nat, q ≤ k ∧ s3 = .slice A3 r c3 ∧ s28 = .int .i64 q ∧ Below T wr w4) (fun _ s28 _ => m - (intOf s28).toNat)
          case atStart => exact ⟨0, by omega, rfl, rfl, HB3.out⟩
          case round =>
            clear c0 c1 HB3 HK3
            rename World => w4
            obtain ⟨q, hq, rfl, rfl, hb4⟩ := hrel
            have hz4 := hb4.size
            rw [← HT.out] at hz4
            have hk4 := HK.out.below hb4 hklt
            have hed4 := HED.out.below (by rw [← HT.out]; exact hb4) (by rw [← HT.out]; exact hz)
            have ho4 := HO.out.below hb4 (by rw [← HT.out]; exact Nat.le_refl _)
            have hql : q < lr.length := by rw [HLR.out]; omega
            obtain ⟨b0, off, hA0, hbb, q0, q1, q2⟩ := (hed4.els (by omega)).at3 hql
            subst hA0
            obtain ⟨e, he⟩ : ∃ e, e = lr[q] := ⟨_, rfl⟩
            have hnk : q ≠ k → touches v e = false := fun h => by rw [he]; exact HNOT.out q hql h
            have hyk : q = k → touches v e = true := fun h => by
              have h2 : e = ek := by subst h; rw [he, HEK.out]
              rw [h2]; exact HTCH.out
            have hge : GoodE N e := by rw [he]; exact HG.out.ed _ (List.getElem_mem hql)
            have hoth : q = k → codeF N (N - 2 - r) lr = otherE v e :: codeF N (N - 2 - (r + 1)) (lr.eraseIdx k) := fun h => by
              have h2 : e = ek := by subst h; rw [he, HEK.out]
              rw [h2, ← HCF.out, show N - 2 - (r + 1) + 1 = N - 2 - r by omega]
            rw [← he] at q0 q1 q2
            have h0 := hge.a0
            have h1 := hge.a1
            have h2 := hge.b0
            have h3 := hge.b1
            obtain ⟨ea, eb, ew⟩ := e
            simp only at h0 h1 h2 h3
            have hoe : otherE v ⟨ea, eb, ew⟩ = (ea + eb - v).toNat := rfl
            have htv : touches v ⟨ea, eb, ew⟩ = decide (ea = v ∨ eb = v) := rfl
            rw [htv] at hnk hyk
            rw [hoe] at hoth
            have hnew := Blk.new w4 62 #[.int .i64 ea, .int .i64 eb, .int .i64 ew]
            have e0 := hnew.cell 0
            have e1 := hnew.cell 1
            have hb5 := hb4.alloc hz4 (.cells #[.int .i64 ea, .int .i64 eb, .int .i64 ew] 62)
            obtain ⟨w5, hw5⟩ : ∃ w5, w5 = w4.alloc (.cells #[.int .i64 ea, .int .i64 eb, .int .i64 ew] 62) := ⟨_, rfl⟩
            rw [← hw5] at hb5
            have hk5 : Blk w5 S 24 #[.int .i64 N, .slice (some ⟨b0, off, none⟩) m cE] := by rw [hw5]; exact hk4.alloc _
            have ho5 : Own w5 (S + 1) 3 1 icell A3 c3 (intsOf pl) := by rw [hw5]; exact ho4.alloc _
            have hed5 : EdA S w5 (some ⟨b0, off, none⟩) lr := by rw [hw5]; exact hed4.below ((Below.refl _ _).alloc (Nat.le_refl _) _) (by omega)
            have hn5 : Blk w5 w4.heap.size 62 #[.int .i64 ea, .int .i64 eb, .int .i64 ew] := by rw [hw5]; exact hnew
            have hz5 : w5.heap.size = w4.heap.size + 1 := by rw [hw5, size_alloc']
            have HW5 := Lib.hid hw5
            have HB5 := Lib.hid hb5
            have HK5 := Lib.hid hk5
            have HO5 := Lib.hid ho5
            have HED5 := Lib.hid hed5
            have HN5 := Lib.hid hn5
            have HZ5 := Lib.hid hz5
            have HOTH := Lib.hid hoth
            clear hnew he hge hoth hoe htv hb4 hb5 hk4 hk5 ho4 ho5 hed4 hed5 hn5 hw5 hz5
            by_cases hqk : q = k
            · have hyk2 := hyk hqk
              rw [decide_eq_true_iff] at hyk2
              have HQK := Lib.hid hqk
              have hsum : IntKind.i64.wrap (ea + eb) = ea + eb := IntWalk.i64_in _ (by omega)
              have hdif : IntKind.i64.wrap (ea + eb - (v : Int)) = ((ea + eb - (v : Int)).toNat : Int) := by
                rw [Int.toNat_of_nonneg (by omega)]; exact IntWalk.i64_in _ (by omega)
              obtain ⟨o, ho⟩ : ∃ o, o = (ea + eb - (v : Int)).toNat := ⟨_, rfl⟩
              rw [← ho] at hdif HOTH
              have hcases : (ea == (v : Int)) = true ∨ ((ea == (v : Int)) = false ∧ (eb == (v : Int)) = true) := by
                by_cases h : ea = v
                · exact .inl (by simp [h])
                · exact .inr ⟨by simpa using h, by simp; omega⟩
              have he8 : intsOf pl ++ [(o : Int)] = intsOf (pl ++ [o]) := by simp [intsOf]
              have HE8 := Lib.hid he8
              have HPL2 : Hid ((intsOf pl).length = r) := Lib.hid (by rw [intsOf, List.length_map]; exact HPL.out)
              have HK5S := HK5.out.lt
              obtain ⟨W5, hWW5⟩ : ∃ W5, W5 = w5 := ⟨_, rfl⟩
              have HO5R : Hid (Own (w4.alloc (.cells #[.int .i64 ea, .int .i64 eb, .int .i64 ew] 62)) (S + 1) 3 1 icell A3 c3 (intsOf pl)) := Lib.hid (by rw [← HW5.out]; exact HO5.out)
              have HK5R : Hid (Blk (w4.alloc (.cells #[.int .i64 ea, .int .i64 eb, .int .i64 ew] 62)) S 24 #[.int .i64 N, .slice (some ⟨b0, off, none⟩) m cE]) := Lib.hid (by rw [← HW5.out]; exact HK5.out)
              have HSZR : Hid ((w4.alloc (.cells #[.int .i64 ea, .int .i64 eb, .int .i64 ew] 62)).heap.size = w4.heap.size + 1) := Lib.hid (size_alloc' _ _)
              have hTw : T ≤ w4.heap.size := hz4
              have after : ∀ (A4 : Option Addr) (c4 : Nat) (w6 w7 : World) (A7 : Option Addr) (n7 c7 : Nat), Own w6 (S + 1) 3 1 icell A4 c4 (intsOf pl ++ [(o : Int)]) → ((w4.alloc (.cells #[.int .i64 ea, .int .i64 eb, .int .i64 ew] 62)).alloc (.cells #[.int .i64 o] 3)).grownBy w6 (blkOf A3) → Below w6.heap.size w6 w7 → Own w7 (w6.heap.size + 1) 62 3 Ed.cells A7 c7 (lr.eraseIdx q) → (lr.eraseIdx q).length = n7 →
                  ∃ (r' : Nat) (A3' : Option Addr) (c3' : Nat) (pl' : List Nat) (AE' : Option Addr) (m' cE' : Nat) (lr' : List Ed) (V' : Nat → Bool), Value.slice A4 (r + 1) c4 = .slice A3' r' c3' ∧ pl'.length = r' ∧ r' ≤ N - 2 ∧ codeF N (N - 2) l = pl' ++ codeF N (N - 2 - r') lr' ∧ TL N lr' V' ∧ lr'.length = m' ∧ m' + r' + 1 = N ∧ Below S w ((w7.setCell ⟨S, 0, none⟩ (.int .i64 N)).setCell ⟨S, 1, none⟩ (.slice A7 n7 c7)) ∧ Blk ((w7.setCell ⟨S, 0, none⟩ (.int .i64 N)).setCell ⟨S, 1, none⟩ (.slice A7 n7 c7)) S 24 #[.int .i64 N, .slice AE' m' cE'] ∧ EdA S ((w7.setCell ⟨S, 0, none⟩ (.int .i64 N)).setCell ⟨S, 1, none⟩ (.slice A7 n7 c7)) AE' lr' ∧ Own ((w7.setCell ⟨S, 0, none⟩ (.int .i64 N)).setCell ⟨S, 1, none⟩ (.slice A7 n7 c7)) (S + 1) 3 1 icell A3' c3' (intsOf pl') := by
                intro A4 c4 w6 w7 A7 n7 c7 h6 hg6 hb7 h7 hn7
                rw [he8] at h6
                have hz4S : S < w4.heap.size := by omega
                have hb6 : Below S w w6 := ((((HB.out.trans (HB5.out.mono hz)).trans (Below.refl S _)).alloc (by rw [HZ5.out]; omega) (.cells #[.int .i64 o] 3)).grown (by rw [HW5.out]; exact hg6) (by rw [size_alloc', HZ5.out]; omega) (fun g hg => by have := (HO5.out.lt g hg).1; omega))
                have hk6 : Blk w6 S 24 #[.int .i64 N, .slice (some ⟨b0, off, none⟩) m cE] := (HK5R.out.alloc _).grown hg6 (fun e => by have := (HO5.out.lt S e.symm).1; omega)
                have hk7 := hk6.below hb7 hk6.lt
                have hz6 : S < w6.heap.size := hk6.lt
                refine ⟨r + 1, A4, c4, pl ++ [o], A7, n7, c7, lr.eraseIdx q, _, rfl, by rw [List.length_append, HPL.out]; rfl, by omega, ?_, by rw [HQK.out]; exact HNEXT.out, hn7, ?_, ?_, ?_, ?_, ?_⟩
                · rw [HCODE.out, HOTH.out HQK.out, HQK.out, List.append_assoc]; rfl
                · rw [← hn7, List.length_eraseIdx_of_lt (by rw [HLR.out]; omega), HLR.out]; omega
                · exact ((hb6.trans (hb7.mono (by omega))).setCell (p := ⟨S, 0, none⟩) (Nat.le_refl _) _).setCell (p := ⟨S, 1, none⟩) (Nat.le_refl _) _
                · exact (hk7.put 0 (.int .i64 N)).put 1 (.slice A7 n7 c7)
                · exact (EdA.setBox (.inr ⟨c7, h7.weaken (by omega)⟩) 0 _).setBox 1 _
                · exact ((h6.below hb7 (Nat.le_refl _)).low (p := ⟨S, 0, none⟩) (show S < S + 1 by omega) _).low (p := ⟨S, 1, none⟩) (show S < S + 1 by omega) _
              have AFTER := Lib.hid after
              have helsq : ∀ (A4 : Option Addr) (c4 : Nat) (w6 : World), Own w6 (S + 1) 3 1 icell A4 c4 (intsOf pl ++ [(o : Int)]) → ((w4.alloc (.cells #[.int .i64 ea, .int .i64 eb, .int .i64 ew] 62)).alloc (.cells #[.int .i64 o] 3)).grownBy w6 (blkOf A3) → Els w6 w6.heap.size 3 Ed.cells (some ⟨b0, off, none⟩) lr ∧ Blk w6 S 24 #[.int .i64 N, .slice (some ⟨b0, off, none⟩) m cE] := by
                intro A4 c4 w6 h6 hg6
                have hk6 : Blk w6 S 24 #[.int .i64 N, .slice (some ⟨b0, off, none⟩) m cE] := (HK5R.out.alloc _).grown hg6 (fun e => by have := (HO5.out.lt S e.symm).1; omega)
                refine ⟨?_, hk6⟩
                have hedr := HED5.out.below ((Below.refl _ _).alloc (Nat.le_refl _) (.cells #[.int .i64 o] 3)) (by omega)
                have hbg : Below S (w5.alloc (.cells #[.int .i64 o] 3)) w6 := (Below.refl S _).grown (by rw [HW5.out]; exact hg6) (by rw [size_alloc', HZ5.out]; omega) (fun g hg => by have := (HO5.out.lt g hg).1; omega)
                exact (hedr.grown hbg (HO5.out.alloc _) (by rw [HW5.out]; exact hg6)).els (by have := hk6.lt; omega)
              have HELSQ := Lib.hid helsq
              clear hnk hyk hyk2 ho he8 hqk after helsq hWW5
              rcases hcases with n1 | ⟨n1, n2⟩
              all_goals
                go_wp2_with (at_builtin; go_must (
                  refine wpList_push rfl _ _ _ rfl (S + 1) 1 3 (.int .i64 0) 8 Tryd.underlying31 (by kernel_rfl) rfl (by omega) icell _ #[.int .i64 o] A3 r c3 (intsOf pl) HPL2.out rfl HO5R.out 1 [(o : Int)] rfl rfl _ rfl HSZR.out (by simp [Value.oneCell']) (by unfold maxLen; omega) (by omega) (by omega) ?_
                  intro A4 c4 w6 hown6 hgrow6 hloc6
                  obtain ⟨hels6, hk6⟩ := HELSQ.out A4 c4 w6 hown6 hgrow6
                  have d0 := hk6.cell 0
                  have d1 := hk6.cell 1
                  have HE6 := Lib.hid hels6
                  have HK6 := Lib.hid hk6
                  have HO6 := Lib.hid hown6
                  have HG6 := Lib.hid hgrow6
                  clear hels6 hk6 hown6 hgrow6 hloc6))
                refine (ref_less N (some ⟨b0, off, none⟩) m cE lr q w6 HLR.out (by omega) HE6.out).mono ?_
                rintro e w7 ⟨A7, n7, c7, rfl, hb7, hn7, ho7⟩
                have hk7 := HK6.out.below hb7 HK6.out.lt
                have d0 := hk7.cell 0
                have d1 := hk7.cell 1
                have f0 := hk7.frozen 0
                have f1 := hk7.frozen 1
                have HREL := Lib.hid (AFTER.out A4 c4 w6 w7 A7 n7 c7 HO6.out HG6.out hb7 ho7 hn7)
                clear hk7 hb7 hn7 ho7 AFTER HELSQ
                go_wp2_with fail
                go_roundw
                case rel => exact HREL.out
                case measure => first | (simp [intOf]; omega) | (show N - (r + 1) < N - r; omega)
            · have hnk2 := hnk hqk
              rw [decide_eq_false_iff_not] at hnk2
              have n1 : (ea == (v : Int)) = false := by simp; omega
              have n2 : (eb == (v : Int)) = false := by simp; omega
              clear hnk hyk hnk2
              go_wp2_with fail
              rw [← HW5.out]
              go_roundw
              case rel => exact ⟨q + 1, by omega, rfl, by go_num, HB5.out⟩
              case measure => simp [intOf]; omega
    · obtain rfl : r = N - 2 := by omega
      have hlt1 : ¬ (((N - 2 : Nat) : Int) < (N : Int) - 2) := by omega
      have hfin : codeF N (N - 2) l = pl := by rw [HCODE.out, Nat.sub_self]; simp [codeF]
      have HF := Lib.hid hfin
      clear hfin htl
      go_wp2_with fail
      refine bodyPost_ret (v := .slice A3 (N - 2) c3) (by simp [results, Tryd.results20, go_sem]) rfl ?_
      first
        | exact ⟨A3, c3, rfl, HB.out, by rw [HF.out]; exact HO.out.els⟩
        | exact ⟨A3, ⟨c3, rfl⟩, HB.out, by rw [HF.out]; exact HO.out.els⟩
end Go.Proofs.YtfaifadfilndmaaDoor
