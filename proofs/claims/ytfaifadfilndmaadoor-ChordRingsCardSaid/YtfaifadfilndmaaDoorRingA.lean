/- Is a row of nodes a ring: the reference's walk. Conditions: the edges and the row read as lists; each node of the row once, each with an edge to the next one. -/
import Derived.Test.YtfaifadfilndmaaDoorGoOn
import Derived.Test.YtfaifadfilndmaaDoorPushFull
import Derived.Test.YtfaifadfilndmaaDoorRegC
import Derived.Test.YtfaifadfilndmaaDoorBit
import Derived.Test.YtfaifadfilndmaaDoorSubP
import Derived.Test.YtfaifadfilndmaaDoorRedei
import Derived.Test.YtfaifadfilndmaaDoorNearR
import Derived.Test.YtfaifadfilndmaaDoorDistP
namespace Go.Proofs.YtfaifadfilndmaaDoor
open Go.RowKit

theorem els_take {α : Type} {w : World} {B c : Nat} {f : α → List Value} {A : Option Addr} {l : List α} (h : Els w B c f A l) (k : Nat) : Els w B c f A (l.take k) := fun h0 => by
  obtain ⟨b, off, e, hb, hc⟩ := h (by rw [List.length_take] at h0; omega)
  refine ⟨b, off, e, hb, fun i a ha j u hu => hc i a ?_ j u hu⟩
  rw [List.getElem?_take] at ha
  split at ha
  · exact ha
  · cases ha
theorem Ch_at {b : Nat → Nat → Bool} : ∀ {l : List Nat} (k : Nat) (h : k + 1 < l.length), Ch b l → b l[k] l[k + 1] = true
  | [], k, h, _ => by simp at h
  | [a], k, h, _ => by simp at h
  | a :: c :: l, 0, _, h => h.1
  | a :: c :: l, k + 1, h, hc => by
    have := Ch_at (b := b) (l := c :: l) k (by simp at h ⊢; omega) hc.2
    simpa using this
theorem wrap_le16 (q : Nat) (h1 : q ≤ 16) : IntKind.i64.wrap (q : Int) = (q : Int) := by
  have h : ∀ i : Fin 17, IntKind.i64.wrap ((i.val : Nat) : Int) = ((i.val : Nat) : Int) := by decide +kernel
  exact h ⟨q, by omega⟩
def joinB (es : List Ed) (i j : Nat) : Bool := adj es i j
set_option maxRecDepth 100000 in
set_option maxHeartbeats 2000000 in
theorem ref_IsRing (N : Nat) (A : Option Addr) (n c : Nat) (es : List Ed) (L : Option Addr) (m cl : Nat) (p : List Nat) (w : World) (hl : es.length = n) (hn : n ≤ 45) (hp : p.length = m) (h3 : 3 ≤ m) (hm : m ≤ 10) (hmc : m ≤ cl) (hok : RowOk N p) (hch : Ch (joinB es) p)
    (hre : Els w w.heap.size 3 Ed.cells A es) (hrl : Els w w.heap.size 1 icell L (intsOf p)) :
    Calls Tryd.prog 73 #[.agg #[.int .i64 N, .slice A n c], .slice L m cl] w fun e w' => e = .returned (.bool (joinB es (lastN p) (p.getD 0 0))) ∧ Below w.heap.size w w' := by
  have HP := Lib.hid hp
  have HOK := Lib.hid hok
  have HCH := Lib.hid hch
  have HRE := Lib.hid hre
  have HRL := Lib.hid hrl
  have HNE := fun (i j : Nat) (w1 : World) (hb : Below w.heap.size w w1) => Lib.hid (ref_Near N i j A n c es w1 hl hn ((hre.below hb).more hb.size))
  have hb0 : Below w.heap.size w (w.alloc (.cells #[.int .i64 N, .slice A n c] 24)) := (Below.refl _ w).alloc (Nat.le_refl _) _
  have hk0 : Blk (w.alloc (.cells #[.int .i64 N, .slice A n c] 24)) w.heap.size 24 #[.int .i64 N, .slice A n c] := Blk.new w _ _
  have HB0 := Lib.hid hb0
  have HK0 := Lib.hid hk0
  obtain ⟨S, hS⟩ : ∃ S, S = w.heap.size := ⟨_, rfl⟩
  have HS := Lib.hid hS
  obtain ⟨bb, hbb⟩ : ∃ bb, bb = joinB es (lastN p) (p.getD 0 0) := ⟨_, rfl⟩
  rw [← hbb]
  have HBB := Lib.hid hbb
  clear hl hn hp hok hch hre hrl hb0 hk0 hS hbb
  go_enter Tryd.func73, Tryd.ntmps73
  go_wp2_with fail
  go_loopw [5] (fun i wr => ∃ k : Nat, k ≤ m ∧ i = .int .i64 k ∧ Below w.heap.size w wr ∧ Blk wr w.heap.size 24 #[.int .i64 N, .slice A n c] ∧ (k = m → bb = true)) (fun i _ => m - (intOf i).toNat)
  case atStart => exact ⟨0, by omega, rfl, HB0.out, HK0.out, fun h => by omega⟩
  case round =>
    clear HB0 HK0
    rename World => wr
    obtain ⟨k, hk, rfl, hb, hk0, hend⟩ := hrel
    have HB := Lib.hid hb
    have HK := Lib.hid hk0
    have HEND := Lib.hid hend
    have hsz := hb.size
    by_cases hlt : k < m
    · have hkp : k < p.length := by rw [HP.out]; exact hlt
      obtain ⟨r, hr⟩ : ∃ r, r = (k + 1) % m := ⟨_, rfl⟩
      have hrm : r < m := by rw [hr]; exact Nat.mod_lt _ (by omega)
      have hrp : r < p.length := by rw [HP.out]; exact hrm
      have hxN : p[k] < N := HOK.out.2 _ (List.getElem_mem hkp)
      have hil : k < (intsOf p).length := by rw [intsOf, List.length_map]; exact hkp
      have hir : r < (intsOf p).length := by rw [intsOf, List.length_map]; exact hrp
      have hgx : (intsOf p)[k] = ((p[k] : Nat) : Int) := by simp [intsOf]
      have hgy : (intsOf p)[r] = ((p[r] : Nat) : Int) := by simp [intsOf]
      have hno : hasB (intsOf (p.take k)) ((p[k] : Nat) : Int) = false := by
        rw [hasB_ints, ← Bool.not_eq_true, List.contains_iff_mem]
        intro hmem
        obtain ⟨i, hi, he⟩ := List.getElem_of_mem hmem
        rw [List.getElem_take] at he
        rw [List.length_take] at hi
        have := (List.getElem_inj (xs := p) (h₀ := by omega) (h₁ := hkp) HOK.out.1).1 he
        omega
      have hb1 : k + 1 < m → joinB es p[k] p[r] = true := fun h => by
        have hre : r = k + 1 := by rw [hr]; exact Nat.mod_eq_of_lt h
        subst hre
        exact Ch_at k (by rw [HP.out]; exact h) HCH.out
      have hb2 : k + 1 = m → joinB es p[k] p[r] = bb := fun h => by
        rw [HBB.out]
        have hre : r = 0 := by rw [hr, h]; exact Nat.mod_self m
        subst hre
        have h1 : lastN p = p[k] := by rw [lastN_at (HP.out.trans h.symm), List.getD_eq_getElem?_getD, List.getElem?_eq_getElem hkp]; rfl
        have h2 : p.getD 0 0 = p[0] := by rw [List.getD_eq_getElem?_getD, List.getElem?_eq_getElem hrp]; rfl
        rw [h1, h2]
      have HHAS := Lib.hid (Has_any L k cl (intsOf (p.take k)) ((p[k] : Nat) : Int) wr.heap.size wr.drew (by rw [intsOf, List.length_map, List.length_take, HP.out]; omega) (by unfold maxLen; omega)
        (by have := els_take ((HRL.out.below hb).more hsz) k; rw [show (intsOf p).take k = intsOf (p.take k) from by simp [intsOf, List.map_take]] at this; exact this))
      rw [hno] at HHAS
      obtain ⟨b2, off2, hLe, _, gx⟩ := (HRL.out.below hb).at1 hil
      obtain ⟨b3, off3, hLe3, _, gy⟩ := (HRL.out.below hb).at1 hir
      subst hLe
      obtain ⟨rfl, rfl⟩ : b2 = b3 ∧ off2 = off3 := by injection hLe3 with h; injection h with h1 h2 h3; exact ⟨h1, h2⟩
      rw [hgx] at gx
      rw [hgy] at gy
      have hNE := HNE p[k] p[r] wr.drew hb.drew
      obtain ⟨b, hbe⟩ : ∃ b, b = joinB es p[k] p[r] := ⟨_, rfl⟩
      rw [← hbe] at hb1 hb2
      have hNE2 : Hid (Calls Tryd.prog 66 #[.agg #[.int .i64 N, .slice A n c], .int .i64 p[k], .int .i64 p[r]] wr.drew fun e w' => e = .returned (.bool b) ∧ Below wr.drew.heap.size wr.drew w') := by rw [hbe]; exact hNE
      obtain ⟨x, hx⟩ : ∃ x, x = p[k] := ⟨_, rfl⟩
      obtain ⟨y, hy⟩ : ∃ y, y = p[r] := ⟨_, rfl⟩
      rw [← hx] at hxN gx HHAS hNE2
      rw [← hy] at gy hNE2
      have HB1 := Lib.hid hb1
      have HB2 := Lib.hid hb2
      have hwk : IntKind.i64.wrap ((k : Int) + 1) = (k : Int) + 1 := wrap_le16 (k + 1) (by omega)
      have hrem : ((k : Int) + 1).tmod (m : Int) = (r : Int) := by rw [hr]; exact (Int.ofNat_tmod (k + 1) m).symm
      have hr0 : (r : Int) < (m : Int) := by omega
      have hki : (k : Int) < (m : Int) := by omega
      have hxi : ¬ ((N : Int) ≤ (x : Int)) := by omega
      have hx0 : decide ((x : Int) < 0) = false := decide_eq_false (by omega)
      have hx1 : decide (N ≤ x) = false := decide_eq_false (by omega)
      have hkc : (k : Int) ≤ (cl : Int) := by omega
      have hm0 : ¬ m = 0 := by omega
      have d0 := HK.out.cell 0
      have d1 := HK.out.cell 1
      clear hb1 hb2 hbe hgx hgy hno hx hy hil hir hkp hrp hr hNE hLe3 hend hk0 hb
      go_wp2_with fail
      refine region_plain 38 41 (fun w' => w' = wr.drew) (by kernel_rfl) rfl ?_
      refine anyC_reads (by kernel_rfl) [0, 1, 2, 3, 4, 5, 6, 7, 8, 9, 10, 11, 12, 13, 14, 15, 16, 17, 18, 19, 20, 21] ?opl ?ohl 19 _ _ _ (by kernel_rfl) ?okk
      case ohl => (simp only [List.filterMap_cons, List.filterMap_nil, List.getElem?_toArray, List.getElem?_cons_zero, List.getElem?_cons_succ]; try rfl)
      case okk =>
        repeat (
          refine readC_step (v := ?_) rfl (fun w' hw' => ?_) ?_
          rotate_left
          focus (subst hw'; go_simp; try with_reducible rfl)
          go_simp)
        refine readC_nil ?_
        refine anyC_one (i := 22) (by kernel_rfl) rfl rfl (.inr rfl) ?_
        go_simp
        refine HHAS.out.mono ?_
        clear HHAS
        rintro e w' ⟨rfl, rfl⟩
        go_simp
        refine anyC_reads (by kernel_rfl) [23, 24, 25, 26, 27, 28, 29, 30, 31, 32, 33, 34, 35, 36, 37] ?opm ?ohm 3 _ _ _ (by kernel_rfl) ?okm
        case ohm => (simp only [List.filterMap_cons, List.filterMap_nil, List.getElem?_toArray, List.getElem?_cons_zero, List.getElem?_cons_succ]; try rfl)
        case okm =>
          repeat (
            refine readC_step (v := ?_) rfl (fun w' hw' => ?_) ?_
            rotate_left
            focus (subst hw'; go_simp; try with_reducible rfl)
            go_simp)
          refine readC_nil ?_
          refine anyC_one (i := 38) (by kernel_rfl) rfl rfl (.inr rfl) ?_
          go_simp
          refine hNE2.out.mono ?_
          clear hNE2
          rintro e w3 ⟨rfl, hb3⟩
          have hb3' : Below wr.heap.size wr w3 := ((Below.refl _ wr).drew).trans hb3
          have HB3 := Lib.hid (HB.out.trans (hb3'.mono hsz))
          have HK3 := Lib.hid (HK.out.below hb3' HK.out.lt)
          clear hb3 hb3'
          go_simp
          refine anyC_one (i := 39) (by kernel_rfl) rfl rfl (.inl (by kernel_rfl)) ?_
          go_simp
          refine anyC_one (i := 40) (by kernel_rfl) rfl rfl (.inl (by kernel_rfl)) ?_
          go_simp
          refine anyC_end (by kernel_rfl) (.inl (by kernel_rfl)) ?_
          cases b with
          | true =>
            have HE2 : Hid (k + 1 = m → bb = true) := Lib.hid (fun h => (HB2.out h).symm)
            clear HB1 HB2
            go_wp2_with fail
            go_roundw
            case rel => exact ⟨k + 1, by omega, by go_num, HB3.out, HK3.out, HE2.out⟩
            case measure => simp [intOf]; omega
          | false =>
            have hbf : bb = false := by
              by_cases h : k + 1 = m
              · exact (HB2.out h).symm
              · have := HB1.out (by omega)
                cases this
            have HBF := Lib.hid hbf
            clear HB1 HB2 hbf
            go_wp2_with fail
            go_ret
            exact ⟨ret_bool HBF.out.symm, HB3.out⟩
    · obtain rfl : k = m := by omega
      clear hb hk0 hend
      have hj := HEND.out rfl
      go_wp2_with fail
      go_ret
      exact ⟨ret_bool (by first | (simp; omega) | (rw [hj]; simp; omega)), HB.out⟩
end Go.Proofs.YtfaifadfilndmaaDoor
