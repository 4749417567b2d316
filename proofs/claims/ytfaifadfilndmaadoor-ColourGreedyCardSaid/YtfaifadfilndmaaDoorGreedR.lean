/- Colouring in an order: the reference's functions. Conditions: the edges and the order read as lists. -/
import Derived.Test.YtfaifadfilndmaaDoorGreedA
import Derived.Test.YtfaifadfilndmaaDoorNearR
import Derived.Test.YtfaifadfilndmaaDoorInts
import Derived.Test.YtfaifadfilndmaaDoorMade
namespace Go.Proofs.YtfaifadfilndmaaDoor
open Go.RowKit Go.Shelf

theorem hasG_mem {l : List Int} {x : Int} : hasB l x = true ↔ x ∈ l := by
  unfold hasB
  rw [List.any_eq_true]
  exact ⟨fun ⟨y, hy, he⟩ => (beq_iff_eq.1 he) ▸ hy, fun h => ⟨x, h, by simp⟩⟩
theorem EachP.snoc {N : Nat} {pre : List Int} {i : Int} (h : EachP N pre) (h0 : 0 ≤ i) (h1 : i < N) (hno : i ∉ pre) : EachP N (pre ++ [i]) := by
  refine ⟨List.nodup_append.2 ⟨h.1, by simp, fun a ha b hb => ?_⟩, fun j hj => ?_⟩
  · rw [List.mem_singleton] at hb
    intro e
    exact hno (by rw [← hb, ← e]; exact ha)
  · rcases List.mem_append.1 hj with h2 | h2
    · exact h.2 j h2
    · rw [List.mem_singleton] at h2; rw [h2]; exact ⟨h0, h1⟩
theorem EachP.pre_ {N : Nat} {o : List Int} {j : Nat} (h : EachP N o) (hj : j < o.length) : (0 ≤ o[j] ∧ o[j] < N) ∧ o[j] ∉ o.take j := by
  refine ⟨h.2 _ (List.getElem_mem hj), fun hm => ?_⟩
  obtain ⟨a, ha, he⟩ := List.mem_iff_getElem.1 hm
  rw [List.getElem_take] at he
  have haj : a < j := by rw [List.length_take] at ha; omega
  exact (List.pairwise_iff_getElem.1 h.1) a j (by omega) hj haj he

instance (m : Nat) (o : List Int) : Decidable (GreedOk m o) := by
  unfold GreedOk EachP
  infer_instance
def eachG (m : Nat) (o : List Int) : Bool := decide (GreedOk m o)
/-- Where the search for a colour stands. -/
def GrSt (es : List Ed) (R : List Int) (pre : List Nat) (i q : Nat) (b : Value) : Prop := (b = .bool true ∧ ∀ c', c' < q → freeB es R pre i c' = false) ∨ (b = .bool false ∧ IsLeast es R pre i q)
theorem ret_boolG {a b : Bool} (h : a = b) : Ending.returned (.bool a) = Ending.returned (.bool b) := by rw [h]
def boolN : Value → Nat
  | .bool true => 1
  | _ => 0
theorem free_any (es : List Ed) (R : List Int) (pre : List Nat) (i c : Nat) : freeB es R pre i c = !(pre.any fun j => adj es i j && R.getD j 0 == (c : Int)) := by
  unfold freeB
  rw [List.not_any_eq_all_not]

set_option maxRecDepth 100000 in
set_option maxHeartbeats 2000000 in
theorem ref_Each (m : Nat) (O : Option Addr) (ko co : Nat) (o : List Int) (B : Nat) (w : World) (hol : o.length = ko) (hko : ko ≤ maxLen) (hkc : ko ≤ co) (hr : Els w B 1 icell O o) :
    Calls Tryd.prog 30 #[.int .i64 m, .slice O ko co] w fun e w' => e = .returned (.bool (eachG m o)) ∧ w' = w := by
  have HOL := Lib.hid hol
  unfold maxLen at hko
  clear hol
  go_enter Tryd.func30, Tryd.ntmps30
  go_wp2_with fail
  go_loopw [9] (fun v wr => ∃ j : Nat, j ≤ ko ∧ v = .int .i64 j ∧ wr = w ∧ EachP m (o.take j)) (fun v _ => ko - (intOf v).toNat)
  case atStart => exact ⟨0, by omega, rfl, rfl, by simp [EachP]⟩
  case round =>
    rename World => wr
    obtain ⟨j, hj, rfl, rfl, hea⟩ := hrel
    have HEA := Lib.hid hea
    by_cases hlt : j < ko
    · have hjl : j < o.length := by rw [HOL.out]; exact hlt
      have hHAS := fun x => Has_any O j co (o.take j) x B wr (by rw [List.length_take, HOL.out]; omega) (by unfold maxLen; omega) (hr.pre j)
      have HHAS := Lib.hid hHAS
      obtain ⟨b2, off2, rfl, _, g2⟩ := hr.at1 hjl
      obtain ⟨i, hi⟩ : ∃ i, i = o[j] := ⟨_, rfl⟩
      rw [← hi] at g2
      have HTK : Hid (o.take (j + 1) = o.take j ++ [i]) := Lib.hid (by rw [List.take_succ_eq_append_getElem hjl, hi])
      have HIN : Hid (GreedOk m o → (0 ≤ i ∧ i < m) ∧ i ∉ o.take j) := Lib.hid (fun h => by rw [hi]; exact h.1.pre_ hjl)
      have hjc : (j : Int) ≤ (co : Int) := by omega
      have hj0 : (0 : Int) ≤ (j : Int) := by omega
      have HH := Lib.hid (hHAS i)
      obtain ⟨bh, hbh⟩ : ∃ b, b = hasB (o.take j) i := ⟨_, rfl⟩
      rw [← hbh] at HH
      have HBH := Lib.hid hbh
      clear hi hHAS HHAS hbh hea hjl
      by_cases hi0 : i < 0
      · go_wp2_with fail
        go_ret
        exact ⟨ret_boolG (decide_eq_false fun h => by have := (HIN.out h).1.1; omega).symm, rfl⟩
      · by_cases him : (m : Int) ≤ i
        · go_wp2_with fail
          go_ret
          exact ⟨ret_boolG (decide_eq_false fun h => by have := (HIN.out h).1.2; omega).symm, rfl⟩
        · go_wp2_with fail
          refine HH.out.mono ?_
          clear HH
          rintro e w' ⟨rfl, rfl⟩
          cases bh with
          | true =>
            go_wp2_with fail
            go_ret
            exact ⟨ret_boolG (decide_eq_false fun h => absurd (hasG_mem.1 HBH.out.symm) (HIN.out h).2).symm, rfl⟩
          | false =>
            go_wp2_with fail
            go_roundw
            case rel => exact ⟨j + 1, by omega, by go_num, trivial, by rw [HTK.out]; exact HEA.out.snoc (by omega) (by omega) (fun h => by have := hasG_mem.2 h; rw [← HBH.out] at this; cases this)⟩
            case measure => simp [intOf]; omega
    · have hjk : j = ko := by omega
      have HG : Hid (EachP m o) := Lib.hid (by rw [hjk, ← HOL.out, List.take_length] at hea; exact hea)
      have HLEN := HOL
      clear hea HEA hjk
      go_wp2_with fail
      go_ret
      refine ⟨ret_boolG ?_, rfl⟩
      have := HLEN.out
      rw [Bool.eq_iff_iff, eachG, decide_eq_true_iff, beq_iff_eq]
      exact ⟨fun h => ⟨HG.out, by omega⟩, fun h => by have := h.2; omega⟩

set_option maxRecDepth 100000 in
set_option maxHeartbeats 4000000 in
theorem ref_Greedy (m : Nat) (A : Option Addr) (n c : Nat) (l : List Ed) (O : Option Addr) (co : Nat) (od : List Nat) (w : World) (hl : l.length = n) (hg : GoodG m l) (hr : Els w w.heap.size 3 Ed.cells A l) (hol : od.length = m) (hod : ∀ i ∈ od, i < m) (hkc : m ≤ co) (ho : Els w w.heap.size 1 icell O (intsOf od)) :
    Calls Tryd.prog 31 #[.agg #[.int .i64 m, .slice A n c], .slice O m co] w fun e w' => ∃ R : Option Addr, e = .returned (.slice R m m) ∧ Below w.heap.size w w' ∧ Els w' w'.heap.size 1 icell R (refG l m od m) := by
  have hm := hg.n10
  have hn := hg.m45
  rw [hl] at hn
  have HL := Lib.hid hl
  have HOL := Lib.hid hol
  have HOM := Lib.hid hod
  obtain ⟨S, hS⟩ : ∃ S, S = w.heap.size := ⟨_, rfl⟩
  have HS := Lib.hid hS
  rw [← hS] at hr ho ⊢
  obtain ⟨W1, hW1⟩ : ∃ W1, W1 = w.alloc (.cells #[.int .i64 m, .slice A n c] 24) := ⟨_, rfl⟩
  have hb1 : Below S w W1 := by rw [hW1, hS]; exact (Below.refl _ w).alloc (Nat.le_refl _) _
  have hk1 : Blk W1 S 24 #[.int .i64 m, .slice A n c] := by rw [hW1, hS]; exact Blk.new w _ _
  have hz1 : W1.heap.size = S + 1 := by rw [hW1, hS]; exact size_alloc' _ _
  have HR := Lib.hid hr
  have HO := Lib.hid ho
  have hi1 : (Tryd.prog.info? 3).map (fun i => (i.zero, i.size, i.bytes)) = some (some (.int .i64 0), 1, 8) := rfl
  obtain ⟨i1, a1, b1, c1', d1⟩ := info_parts hi1
  have hm1 : ∀ W : World, (Instr.makeSlice 31 (.int .i64 m) (.int .i64 m)).run Tryd.prog W = .ok (.slice (some ⟨W.heap.size, 0, none⟩) m m) (W.alloc (.cells (madeCells #[.int .i64 0] m) 3)) := fun W => by
    have := run_make (P := Tryd.prog) W 31 3 i1 (.int .i64 0) (by kernel_rfl) a1 b1 .i64 .i64 m m (by omega) (Int.le_refl _) (by rw [d1]; omega) (by omega)
    rw [c1', Nat.mul_one, show (Value.int .i64 0).cells = #[Value.int .i64 0] from rfl] at this
    simpa using this
  have hmk := hm1 W1
  rw [hz1] at hmk
  obtain ⟨W2, hW2⟩ : ∃ W2, W2 = W1.alloc (.cells (madeCells #[.int .i64 0] m) 3) := ⟨_, rfl⟩
  rw [← hW2] at hmk
  have hb2 : Below S w W2 := by rw [hW2]; exact hb1.alloc (by omega) _
  have hk2 : Blk W2 S 24 #[.int .i64 m, .slice A n c] := by rw [hW2]; exact hk1.alloc _
  have ho2 : Own W2 (S + 1) 3 1 icell (some ⟨S + 1, 0, none⟩) m (refG l m od 0) := by
    have : Own W2 (S + 1) 3 1 icell (some ⟨S + 1, 0, none⟩) m (List.replicate m 0) := by
      rw [hW2]
      exact Own.block1 (f := fun x => .int .i64 x) (x0 := 0) (by have := Blk.new W1 3 (madeCells #[.int .i64 0] m); rw [hz1] at this; exact this) (by unfold maxLen; omega) (Nat.le_refl _)
    exact this
  have d0 := hk1.cell 0
  rw [hW1] at d0
  rw [hW1, hS] at hmk
  have HW1 := Lib.hid hW1
  have HB2 := Lib.hid hb2
  have HK2 := Lib.hid hk2
  have HO2 := Lib.hid ho2
  rw [hS] at d0
  clear hi1 a1 b1 c1' d1 hm1 hW2 hb2 hk2 ho2 hb1 hk1 hz1 hW1 hr ho hl hol hod hg
  go_enter Tryd.func31, Tryd.ntmps31
  go_wp2_with fail
  rw [← HS.out]
  clear hmk d0
  go_loopw [17] (fun v wr => ∃ j : Nat, j ≤ m ∧ v = .int .i64 j ∧ Below S w wr ∧ Blk wr S 24 #[.int .i64 m, .slice A n c] ∧ Own wr (S + 1) 3 1 icell (some ⟨S + 1, 0, none⟩) m (refG l m od j)) (fun v _ => m - (intOf v).toNat)
  case atStart => exact ⟨0, by omega, rfl, HB2.out, HK2.out, HO2.out⟩
  case round =>
    clear HB2 HK2 HO2
    rename World => wr
    obtain ⟨j, hj, rfl, hb, hkb, hor⟩ := hrel
    have hz : S ≤ wr.heap.size := by have := hb.size; rw [← HS.out] at this; exact this
    have HB := Lib.hid hb
    have HK := Lib.hid hkb
    have HOR := Lib.hid hor
    have hSlt := hkb.lt
    have hTlt := (own_lt hor).2
    clear hS
    by_cases hlt : j < m
    · have hjd : j < od.length := by rw [HOL.out]; exact hlt
      have hjl : j < (intsOf od).length := by rw [intsOf, List.length_map]; exact hjd
      obtain ⟨b2, off2, rfl, _, g2⟩ := (HO.out.below hb).at1 hjl
      obtain ⟨i, hi⟩ : ∃ i, i = od.getD j 0 := ⟨_, rfl⟩
      have him : i < m := by rw [hi, getD_at od j hjd]; exact HOM.out _ (List.getElem_mem hjd)
      have hoi : (intsOf od)[j] = ((i : Nat) : Int) := by rw [hi, getD_at od j hjd]; simp [intsOf]
      rw [hoi] at g2
      obtain ⟨pre, hpre⟩ : ∃ p, p = od.take j := ⟨_, rfl⟩
      have hpl : pre.length = j := by rw [hpre, List.length_take]; omega
      have HPR := Lib.hid hpre
      have HPL := Lib.hid hpl
      have HI := Lib.hid hi
      have hjc : (j : Int) ≤ (co : Int) := by omega
      have hj0 : (0 : Int) ≤ (j : Int) := by omega
      clear hi hoi hpre hpl hb hkb hor hjd hjl
      go_wp2_with fail
      go_loopw [8, 9] (fun v b wi => ∃ q : Nat, q ≤ j ∧ v = .int .i64 q ∧ Below wr.heap.size wr wi ∧ GrSt l (refG l m od j) pre i q b) (fun v b _ => (m + 1 - (intOf v).toNat) + boolN b)
      case atStart => exact ⟨0, by omega, rfl, Below.refl _ _, .inl ⟨rfl, fun c' hc' => by omega⟩⟩
      case round =>
        rename World => wi
        obtain ⟨q, hq, rfl, hbi, hst⟩ := hrel
        have HBI := Lib.hid hbi
        rcases hst with ⟨rfl, hT⟩ | ⟨rfl, hF⟩
        · have HT := Lib.hid hT
          clear hT
          have hbz := hbi.size
          go_wp2_with fail
          go_loopw [9, 27] (fun b v wj => ∃ x : Nat, x ≤ j ∧ v = .int .i64 x ∧ b = .bool ((pre.take x).any fun jj => adj l i jj && (refG l m od j).getD jj 0 == (q : Int)) ∧ Below wr.heap.size wr wj) (fun _ v _ => j - (intOf v).toNat)
          case atStart => exact ⟨0, by omega, rfl, rfl, HBI.out⟩
          case round =>
            clear HBI hbi hbz
            rename World => wj
            obtain ⟨x, hx, rfl, rfl, hbj⟩ := hrel
            have hzj := hbj.size
            have hkj := HK.out.below hbj hSlt
            have d0 := hkj.cell 0
            have d1 := hkj.cell 1
            have HBJ := Lib.hid hbj
            obtain ⟨bo, hbo⟩ : ∃ b, b = (pre.take x).any fun jj => adj l i jj && (refG l m od j).getD jj 0 == (q : Int) := ⟨_, rfl⟩
            rw [← hbo]
            by_cases hxl : x < j
            · have hxp : x < pre.length := by rw [HPL.out]; exact hxl
              have hxd : x < od.length := by rw [HOL.out]; omega
              have hxi : x < (intsOf od).length := by rw [intsOf, List.length_map]; exact hxd
              obtain ⟨b3, off3, hAe, _, g3⟩ := ((HO.out.below HB.out).below (hbj.mono hz)).at1 hxi
              simp only [Option.some.injEq, Addr.mk.injEq] at hAe
              obtain ⟨rfl, rfl, _⟩ := hAe
              obtain ⟨jj, hjj⟩ : ∃ jj, jj = od[x] := ⟨_, rfl⟩
              have hjm : jj < m := by rw [hjj]; exact HOM.out _ (List.getElem_mem hxd)
              have hoj : (intsOf od)[x] = ((jj : Nat) : Int) := by rw [hjj]; simp [intsOf]
              rw [hoj] at g3
              have hpx : pre[x] = jj := by
                rw [hjj]
                have : pre[x]? = (od.take j)[x]? := by rw [HPR.out]
                rw [List.getElem?_eq_getElem hxp, List.getElem?_take, if_pos hxl, List.getElem?_eq_getElem hxd] at this
                simpa using this
              obtain ⟨bt, hbt⟩ : ∃ bt, bt = adj l i jj := ⟨_, rfl⟩
              have HNE := Lib.hid (ref_Near m i jj A n c l wj HL.out hn (((HR.out.below HB.out).below (hbj.mono hz)).more (by omega)))
              rw [← hbt] at HNE
              have hjr : jj < (refG l m od j).length := by rw [refG_length]; exact hjm
              obtain ⟨v, hv⟩ : ∃ v, v = (refG l m od j).getD jj 0 := ⟨_, rfl⟩
              have HCELL : Hid (∀ w' : World, Below wj.heap.size wj w' → w'.cell? ⟨S + 1, jj, none⟩ = some (.int .i64 v)) := Lib.hid (fun w' hb' => by
                have ho' := (HOR.out.below hbj (Nat.le_refl _)).below hb' (Nat.le_refl _)
                obtain ⟨g', hge, _, _, h1, _⟩ := ho'.cell1 hjr
                have hg : S + 1 = g' := by injection hge with h; injection h
                rw [← hg, ← getD_at _ jj hjr 0, ← hv] at h1
                exact h1)
              have HST : Hid ((pre.take (x + 1)).any (fun jj => adj l i jj && (refG l m od j).getD jj 0 == (q : Int)) = (bo || (bt && v == (q : Int)))) := Lib.hid (by
                rw [List.take_succ_eq_append_getElem hxp, List.any_append, ← hbo, hpx]
                simp only [List.any_cons, List.any_nil, Bool.or_false, ← hbt, ← hv])
              have hjm' : (jj : Int) < (m : Int) := by omega
              have hjj0 : (0 : Int) ≤ (jj : Int) := by omega
              clear hjj hoj hpx hbt hv hbo hxi hxd hxp hbj hkj hjr
              go_wp2_with fail
              refine HNE.out.mono ?_
              clear HNE
              rintro e w4 ⟨rfl, hb4⟩
              have HB4 := Lib.hid (HBJ.out.trans (hb4.mono hzj))
              have g4 := HCELL.out w4 hb4
              clear hb4 d0 d1 g3
              cases bt with
              | false =>
                clear g4
                go_wp2_with fail
                go_roundw
                case rel => exact ⟨x + 1, by omega, by go_num, by rw [HST.out]; simp, HB4.out⟩
                case measure => simp [intOf]; omega
              | true =>
                by_cases hvq : v = (q : Int)
                · have hv1 : (v == (q : Int)) = true := by simpa using hvq
                  have HV := Lib.hid hv1
                  clear hvq
                  go_wp2_with fail
                  go_roundw
                  case rel => exact ⟨x + 1, by omega, by go_num, by rw [HST.out, HV.out]; simp, HB4.out⟩
                  case measure => simp [intOf]; omega
                · have hv1 : (v == (q : Int)) = false := by simpa using hvq
                  have HV := Lib.hid hv1
                  clear hvq
                  go_wp2_with fail
                  go_roundw
                  case rel => exact ⟨x + 1, by omega, by go_num, by rw [HST.out, HV.out]; simp, HB4.out⟩
                  case measure => simp [intOf]; omega
            · have hxj : x = j := by omega
              have HFR : Hid (freeB l (refG l m od j) pre i q = !bo) := Lib.hid (by
                rw [free_any, hbo, hxj, ← HPL.out, List.take_length])
              clear hbo hbj hkj d0 d1 hxj
              cases bo with
              | false =>
                go_wp2_with fail
                go_roundw
                case rel => exact ⟨q, hq, rfl, HBJ.out, .inr ⟨rfl, by rw [HFR.out]; rfl, HT.out⟩⟩
                case measure => simp [intOf, boolN]
              | true =>
                have hno : ∀ c', c' < q + 1 → freeB l (refG l m od j) pre i c' = false := fun c' hc' => by
                  by_cases hcq : c' = q
                  · rw [hcq, HFR.out]; rfl
                  · exact HT.out c' (by omega)
                have hq1 := blocked_le hno
                rw [HPL.out] at hq1
                have HNO := Lib.hid hno
                clear hno
                go_wp2_with fail
                go_roundw
                case rel => exact ⟨q + 1, hq1, by go_num, HBJ.out, .inl ⟨rfl, HNO.out⟩⟩
                case measure => simp [intOf, boolN]; omega
        · have hle := hF
          clear hF
          rw [HPR.out] at hle
          have hqq := IsLeast.same hle (leastC_is l (refG l m od j) (od.take j) i)
          have HSET : Hid ((refG l m od j).set i (q : Int) = refG l m od (j + 1)) := Lib.hid (by rw [hqq, HI.out]; rfl)
          have hir : i < (refG l m od j).length := by rw [refG_length]; exact him
          have hoi := HOR.out.below hbi (Nat.le_refl _)
          obtain ⟨g', hge, _, _, z6, z7⟩ := hoi.cell1 hir
          have hg : S + 1 = g' := by injection hge with h; injection h
          rw [← hg] at z6 z7
          have HO3 : Hid (Own (wi.setCell ⟨S + 1, i, none⟩ (.int .i64 (q : Int))) (S + 1) 3 1 icell (some ⟨S + 1, 0, none⟩) m (refG l m od (j + 1))) := Lib.hid (by
            have := hoi.put1 (x := (q : Int)) hir
            rw [HSET.out] at this
            exact this)
          have him' : (i : Int) < (m : Int) := by omega
          have hi0 : (0 : Int) ≤ (i : Int) := by omega
          clear hle hqq hoi hge hg hbi
          go_wp2_with fail
          go_roundw
          case rel => exact ⟨j + 1, by omega, by go_num, (HB.out.trans (HBI.out.mono hz)).setCell (p := ⟨S + 1, i, none⟩) (show S ≤ S + 1 by omega) _, (HK.out.below HBI.out hSlt).far (p := ⟨S + 1, i, none⟩) (show S ≠ S + 1 by omega) _, HO3.out⟩
          case measure => simp [intOf]; omega
    · have hjm : j = m := by omega
      have HE := Lib.hid hor.els
      rw [hjm] at HE
      clear hb hkb hor hjm
      go_wp2_with fail
      go_ret
      exact ⟨some ⟨S + 1, 0, none⟩, rfl, HB.out, HE.out⟩
end Go.Proofs.YtfaifadfilndmaaDoor
