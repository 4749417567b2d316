/- slices.DeleteFunc at slices of ints, whatever the closure. Conditions: the slice is a row of its own; the closure answers p and changes nothing. -/
import Derived.Test.YtdinknpagklkjaaPlaceMost6
import Derived.Test.YtdinknpagklkjaaPlaceMost3
import Derived.Test.YtdinknpagklkjaaPlaceMost9
import Derived.Lib.SliceRun
import Derived.WalkSpells
import Derived.Test.YtdinknpagklkjaaPlaceMost4
import Derived.Laws.CopyOwn
import Derived.Test.YtdinknpagklkjaaProg
import Derived.Test.YtdinknpagklkjaaPlaceMost2
import Derived.Laws.IdiomCopy
import Derived.Test.YtdinknpagklkjaaPlaceMost1
namespace Go.Proofs.Ytdinknpagklkjaa
open Go.RowKit

theorem gb_trans {a b c : World} {row : Option Nat} (h : a.grownBy b row) (k : b.grownBy c row) : a.grownBy c row :=
  ⟨k.os.trans h.os, k.tape.trans h.tape, k.output.trans h.output, Nat.le_trans h.size k.size, fun i hi hn => (k.block i (Nat.lt_of_lt_of_le hi h.size) hn).trans (h.block i hi hn)⟩
theorem gb_setCell (w : World) (g i : Nat) (v : Value) : w.grownBy (w.setCell ⟨g, i, none⟩ v) (some g) :=
  ⟨rfl, rfl, rfl, by simp [World.setCell], fun k _ hn => Below.heap_setCell w ⟨g, i, none⟩ v k (fun e => hn (by rw [e]))⟩
theorem gb_below {w w' : World} {row : Option Nat} (h : Below w.heap.size w w') : w.grownBy w' row := ⟨h.os, h.tape, h.output, h.size, fun k hk _ => h.block k hk⟩
theorem Own.cut {α : Type} {w : World} {B c cap g : Nat} {e : TypeId} {f : α → List Value} {X : List α} : ∀ (m : Nat) (Y : List α), Y.length = m → Own w B e c f (some ⟨g, 0, none⟩) cap (X ++ Y) → Own w B e c f (some ⟨g, 0, none⟩) cap X
  | 0, Y, h, ho => by
    rw [List.length_eq_zero_iff.1 h, List.append_nil] at ho
    exact ho
  | m + 1, Y, h, ho => by
    have hne : Y ≠ [] := fun e => by rw [e] at h; simp at h
    refine Own.cut m Y.dropLast (by rw [List.length_dropLast]; omega) (Own.pop (x := Y.getLast hne) ?_)
    rw [List.append_assoc, List.dropLast_concat_getLast]
    exact ho
theorem Own.first {α : Type} {w : World} {B c cap g : Nat} {e : TypeId} {f : α → List Value} {L : List α} (h : Own w B e c f (some ⟨g, 0, none⟩) cap L) (i : Nat) : Own w B e c f (some ⟨g, 0, none⟩) cap (L.take i) := by
  refine Own.cut _ (L.drop i) rfl ?_
  rw [List.take_append_drop]
  exact h
theorem own_setCells {w : World} {B cap g : Nat} {e : TypeId} {f : Int → Value} (z : Int) : ∀ (k o : Nat) (w : World) (L : List Int), o + k ≤ L.length → Own w B e 1 (fun a => [f a]) (some ⟨g, 0, none⟩) cap L → ∃ L', L'.length = L.length ∧ L'.take o = L.take o ∧ Own (w.setCells g o (List.replicate k (f z))) B e 1 (fun a => [f a]) (some ⟨g, 0, none⟩) cap L' ∧ w.grownBy (w.setCells g o (List.replicate k (f z))) (some g)
  | 0, o, w, L, _, h => ⟨L, rfl, rfl, h, World.grownBy.refl w _⟩
  | k + 1, o, w, L, hk, h => by
    obtain ⟨L', h1, h2, h3, h4⟩ := own_setCells (w := w) z k (o + 1) (w.setCell ⟨g, o, none⟩ (f z)) (L.set o z) (by rw [List.length_set]; omega) (h.put1 (by omega))
    refine ⟨L', by rw [h1, List.length_set], ?_, h3, gb_trans (gb_setCell w g o _) h4⟩
    have := congrArg (List.take o) h2
    rw [List.take_take, List.take_take, Nat.min_eq_left (by omega), List.take_set_of_le (Nat.le_refl _)] at this
    exact this
/-- While the second loop goes: j places looked at, i kept. -/
structure DelAt (p : Int → Bool) (l L : List Int) (i j : Nat) : Prop where
  len : L.length = l.length
  lt : i < j
  le : j ≤ l.length
  head : L.take i = (l.take j).filter fun x => !p x
  tail : L.drop j = l.drop j
theorem DelAt.start {p : Int → Bool} {l : List Int} {k : Nat} (hk : k < l.length) (h : p l[k] = true) (hno : ∀ j, ∀ hj : j < k, p (l[j]'(by omega)) = false) : DelAt p l l k (k + 1) := by
  refine ⟨rfl, Nat.lt_succ_self _, hk, ?_, rfl⟩
  rw [List.take_succ_eq_append_getElem hk, List.filter_append]
  have e1 : (l.take k).filter (fun x => !p x) = l.take k := by
    rw [List.filter_eq_self]
    intro x hx
    obtain ⟨j, hj, rfl⟩ := List.mem_iff_getElem.1 hx
    rw [List.getElem_take, hno j (by rw [List.length_take] at hj; omega)]
    rfl
  rw [e1]
  simp [h]
theorem DelAt.at {p : Int → Bool} {l L : List Int} {i j : Nat} (h : DelAt p l L i j) (hj : j < l.length) : L[j]'(by rw [h.len]; exact hj) = l[j] := by
  have := congrArg (fun m : List Int => m[0]?) h.tail
  simp only [List.getElem?_drop, Nat.add_zero] at this
  rw [List.getElem?_eq_getElem (by rw [h.len]; exact hj), List.getElem?_eq_getElem hj] at this
  simpa using this
theorem DelAt.skip {p : Int → Bool} {l L : List Int} {i j : Nat} (h : DelAt p l L i j) (hj : j < l.length) (hp : p l[j] = true) : DelAt p l L i (j + 1) := by
  have := h.lt
  refine ⟨h.len, by omega, hj, ?_, ?_⟩
  · rw [List.take_succ_eq_append_getElem hj, List.filter_append, h.head]
    simp [hp]
  · have := congrArg (List.drop 1) h.tail
    rwa [List.drop_drop, List.drop_drop] at this
theorem DelAt.keep {p : Int → Bool} {l L : List Int} {i j : Nat} (h : DelAt p l L i j) (hj : j < l.length) (hp : p l[j] = false) : DelAt p l (L.set i l[j]) (i + 1) (j + 1) := by
  have h1 := h.lt
  have h2 := h.le
  have h3 := h.len
  refine ⟨by rw [List.length_set]; exact h.len, by omega, hj, ?_, ?_⟩
  · rw [List.take_succ_eq_append_getElem (by rw [List.length_set]; omega), List.getElem_set_self, List.take_set_of_le (Nat.le_refl _), h.head, List.take_succ_eq_append_getElem hj, List.filter_append]
    simp [hp]
  · have := congrArg (List.drop 1) h.tail
    rw [List.drop_drop, List.drop_drop] at this
    rw [List.drop_set_of_lt (by omega)]
    exact this
theorem gb_own {w wx : World} {B cap n : Nat} {A : Option Addr} {l : List Int} (hb : Below n w wx) (hn : w.heap.size ≤ n) : w.grownBy wx (blkOf A) := ⟨hb.os, hb.tape, hb.output, hb.size, fun k hk _ => hb.block k (by omega)⟩

set_option maxRecDepth 100000 in
set_option maxHeartbeats 1000000 in
theorem DeleteFunc_ints (F : FuncId) (hF : Ent Try.prog F) (lb : Array Value) (p : Int → Bool) (A : Option Addr) (n B cap : Nat) (l : List Int) (w : World) (hl : l.length = n) (hn : n ≤ 65536) (ho : Own w B 3 1 icell A cap l)
    (H : ∀ (a : Int) (wx : World), w.grownBy wx (blkOf A) → Calls Try.prog F (#[.int .i64 a] ++ lb) wx fun e w' => e = .returned (.bool (p a)) ∧ w' = wx) :
    Calls Try.prog 116 #[.slice A n cap, .func (.func F) #[] lb] w fun e w' => e = .returned (.slice A (l.filter fun x => !p x).length cap) ∧ Own w' B 3 1 icell A cap (l.filter fun x => !p x) ∧ w.grownBy w' (blkOf A) := by
  have HIX := Lib.hid (IndexFunc_ints F hF lb p A n cap l w hl (by unfold maxLen; omega) ho.els (fun a wx _ hb => (H a wx (gb_below hb)).mono fun e w' ⟨he, hw⟩ => ⟨he, by rw [hw]; exact Below.refl _ _⟩))
  rcases hany : l.any p with _ | _
  · rw [idxF_no hany] at HIX
    have hfil : (l.filter fun x => !p x) = l := by
      rw [List.filter_eq_self]
      intro x hx
      have := List.any_eq_false.1 hany x hx
      simpa using this
    rw [hfil, hl]
    have HO := Lib.hid ho
    clear hany ho H hfil hl
    go_enter Try.func116, Try.ntmps116
    go_wp2_with fail
    refine HIX.out.mono ?_
    clear HIX
    rintro e w1 ⟨rfl, hb⟩
    have HG := Lib.hid (gb_below (row := blkOf A) hb)
    have HO1 := Lib.hid (HO.out.below hb (Nat.le_refl _))
    clear hb
    go_wp2_with fail
    go_ret
    exact ⟨rfl, HO1.out, HG.out⟩
  · obtain ⟨k, hk, hix, hpk, hno⟩ := idxF_some hany
    rw [hix] at HIX
    have hd0 := DelAt.start hk hpk hno
    obtain ⟨g, rfl, hgB, -, -, -⟩ := ho.cell1 hk
    have hcap := ho.cap_le
    have HO := Lib.hid ho
    have HH := Lib.hid H
    have HL := Lib.hid hl
    have HD0 := Lib.hid hd0
    have hkn : k < n := by omega
    rw [hl] at hcap
    unfold Ent at hF
    clear ho H hl hpk hno hix hany hd0 hk
    go_enter Try.func116, Try.ntmps116
    go_wp2_with fail
    refine HIX.out.mono ?_
    clear HIX
    rintro e w1 ⟨rfl, hb⟩
    have HG := Lib.hid (gb_below (row := some g) hb)
    have HO1 := Lib.hid (HO.out.below hb (Nat.le_refl _))
    clear hb
    have hk1 : ¬ ((k : Int) = -1) := by omega
    have hk2 : ((k : Int) == -1) = false := by simp
    go_wp2_with fail
    go_loopw [5, 6] (fun s5 s6 wr => ∃ (i j : Nat) (L : List Int), s5 = .int .i64 i ∧ s6 = .int .i64 j ∧ DelAt p l L i j ∧ Own wr B 3 1 icell (some ⟨g, 0, none⟩) cap L ∧ w.grownBy wr (some g)) (fun _ s6 _ => n - (intOf s6).toNat)
    case atStart => exact ⟨k, k + 1, l, rfl, by go_num, HD0.out, HO1.out, HG.out⟩
    case round =>
      clear HG HO1 HD0
      rename World => wr
      obtain ⟨i, j, L, rfl, rfl, hd, ho, hg⟩ := hrel
      have h1 := hd.lt
      have h2 := hd.le
      have h3 := hd.len
      rw [HL.out] at h2 h3
      have HD := Lib.hid hd
      have HO2 := Lib.hid ho
      have HG2 := Lib.hid hg
      by_cases hjn : j < n
      · have hjl : j < l.length := by rw [HL.out]; exact hjn
        have hjL : j < L.length := by omega
        have hiL : i < L.length := by omega
        obtain ⟨g', hg', _, _, r0, _⟩ := ho.cell1 hjL
        have : g = g' := by simpa using hg'
        subst this
        rw [hd.at hjl] at r0
        obtain ⟨g'', hg'', _, _, r1, f1⟩ := ho.cell1 hiL
        have : g = g'' := by simpa using hg''
        subst this
        have hsk := hd.skip hjl
        have hkp := hd.keep hjl
        have hput := ho.put1 (x := l[j]) hiL
        obtain ⟨x, hx⟩ : ∃ x, x = l[j] := ⟨_, rfl⟩
        rw [← hx] at r0 hsk hkp hput
        have hcall := HH.out x wr hg
        have HC := Lib.hid hcall
        have HS := Lib.hid hsk
        have HK := Lib.hid hkp
        have HPUT := Lib.hid hput
        generalize L[i] = y1 at r1
        clear hd ho hg hcall hsk hkp hput hx
        rcases Bool.eq_false_or_eq_true (p x) with hp | hp
        · have HD2 := Lib.hid (HS.out hp)
          rw [hp] at HC
          clear hp HS HK HPUT
          go_wp2_with fail
          refine HC.out.mono ?_
          rintro e w2 ⟨rfl, rfl⟩
          go_wp2_with fail
          go_roundw
          case rel => exact ⟨i, j + 1, L, rfl, by go_num, HD2.out, HO2.out, HG2.out⟩
          case measure => simp [intOf]; omega
        · have HD2 := Lib.hid (HK.out hp)
          rw [hp] at HC
          clear hp HS HK
          go_wp2_with fail
          refine HC.out.mono ?_
          rintro e w2 ⟨rfl, rfl⟩
          go_wp2_with fail
          go_roundw
          case rel => exact ⟨i + 1, j + 1, _, by go_num, by go_num, HD2.out, HPUT.out, gb_trans HG2.out (gb_setCell _ _ _ _)⟩
          case measure => simp [intOf]; omega
      · obtain rfl : j = n := by omega
        have hct : ∀ W0 : World, (Instr.slice 27 (.slice (some ⟨g, 0, none⟩) j cap) (some (.int .i64 (i : Int))) none none).run Try.prog W0 = .ok (.slice (some ⟨g, i, none⟩) (j - i) (cap - i)) W0 := fun W0 => by
          have := run_tail Try.underlying27 (fun w => by kernel_rfl) (some ⟨g, 0, none⟩) j cap i (by omega) hcap (by omega) W0
          rw [this, if_neg (by omega)]
          simp [addr_add]
        have hcl := Lib.run_clear_slice (P := Try.prog) wr 27 3 0 (.int .i64 0) Try.underlying27 (fun w => by kernel_rfl) rfl rfl g i (j - i) (cap - i) (by omega) (fun q hq => by
          obtain ⟨g', hg', _, _, r, _⟩ := ho.cell1 (k := i + q) (by omega)
          have : g' = g := by simpa using hg'.symm
          subst this
          rw [r]; rfl) (fun q hq => by
          obtain ⟨g', hg', _, _, _, f⟩ := ho.cell1 (k := i + q) (by omega)
          have : g' = g := by simpa using hg'.symm
          subst this
          exact f)
        obtain ⟨L', e1, e2, e3, e4⟩ := own_setCells (w := wr) (f := fun x : Int => Value.int .i64 x) 0 (j - i) i wr L (by omega) ho
        have hfin := e3.first i
        rw [e2, hd.head, List.take_of_length_le (by rw [HL.out]; exact Nat.le_refl _)] at hfin
        have hlen : (l.filter fun x => !p x).length = i := by
          have := congrArg List.length hd.head
          rw [List.length_take, List.take_of_length_le (by rw [HL.out]; exact Nat.le_refl _)] at this
          omega
        have HF := Lib.hid hfin
        have HG3 := Lib.hid (gb_trans hg e4)
        have HLEN := Lib.hid hlen
        obtain ⟨w9, hw9⟩ : ∃ w9, w9 = wr.setCells g i (List.replicate (j - i) (.int .i64 0)) := ⟨_, rfl⟩
        rw [← hw9] at hcl HF HG3
        clear hd ho hg e1 e2 e3 e4 hfin hlen hw9
        go_wp2_with fail
        go_ret
        exact ⟨by rw [HLEN.out]; rfl, HF.out, HG3.out⟩
end Go.Proofs.Ytdinknpagklkjaa

/- A copy of a slice with one element behind: 'append(append([]T{}, l...), x)'. Conditions: none. -/
namespace Go.Proofs.Ytdinknpagklkjaa
open Go.RowKit

theorem snoc_size {W w5 : World} {o : Obj} {S : Nat} {row : Option Nat} (hS : W.heap.size = S) (g2 : (W.alloc o).grownBy w5 row) : S ≤ w5.heap.size := by
  have := g2.size
  rw [size_alloc'] at this
  omega
theorem snoc_done {α : Type} {W w5 w6 : World} {o o2 : Obj} {S c cap2 cap3 : Nat} {e : TypeId} {f : α → List Value} {A2 A3 : Option Addr} {l : List α} {x : α} (hS : W.heap.size = S)
    (h2 : Own w5 S e c f A2 cap2 ([] ++ l)) (g2 : (W.alloc o).grownBy w5 (blkOf (some ⟨S, 0, none⟩))) (h3 : Own w6 S e c f A3 cap3 ([] ++ l ++ [x])) (g3 : (w5.alloc o2).grownBy w6 (blkOf A2)) :
    Below S W w6 ∧ Own w6 S e c f A3 cap3 (l ++ [x]) ∧ S < w6.heap.size := by
  have b1 : Below S W (W.alloc o) := (Below.refl S W).alloc (by omega) o
  have b2 : Below S W w5 := b1.grown g2 (by rw [size_alloc']; omega) (fun g hg => by
    have : S = g := by simpa [blkOf] using hg
    omega)
  have z5 : S < w5.heap.size := by
    have := g2.size
    rw [size_alloc'] at this
    omega
  have b3 : Below S W (w5.alloc o2) := b2.alloc (by omega) o2
  have b4 : Below S W w6 := b3.grown g3 (by rw [size_alloc']; omega) (fun g hg => (h2.lt g hg).1)
  refine ⟨b4, by rw [List.nil_append] at h3; exact h3, ?_⟩
  have := g3.size
  rw [size_alloc'] at this
  omega
/-- The empty literal. -/
theorem Own.empty {α : Type} (w : World) (e : TypeId) (c : Nat) (f : α → List Value) (hf : ∀ a, (f a).length = c) : Own (w.alloc (.cells #[] e)) w.heap.size e c f (some ⟨w.heap.size, 0, none⟩) 0 ([] : List α) :=
  Own.lit (f := f) (c := c) w w.heap.size e #[] hf [] 0 rfl rfl (by unfold maxLen; omega) (Nat.le_refl _)
theorem Own.empty_at {α : Type} {w : World} {S : Nat} (hS : w.heap.size = S) (e : TypeId) (c : Nat) (f : α → List Value) (hf : ∀ a, (f a).length = c) : Own (w.alloc (.cells #[] e)) S e c f (some ⟨S, 0, none⟩) 0 ([] : List α) := by
  subst hS
  exact Own.empty w e c f hf
end Go.Proofs.Ytdinknpagklkjaa

/- slices.Clone at workers. Conditions: the slice reads as a list. -/
namespace Go.Proofs.Ytdinknpagklkjaa
open Go.RowKit

set_option maxRecDepth 100000 in
theorem Clone_workers (A : Option Addr) (n c : Nat) (l : List Wk) (w : World) (hl : l.length = n) (hn : n ≤ 65536) (hr : Els w w.heap.size 2 wkcell A l) :
    Calls Try.prog 114 #[.slice A n c] w fun e w' => ∃ A' cap, e = .returned (.slice A' n cap) ∧ Below w.heap.size w w' ∧ Own w' w.heap.size 39 2 wkcell A' cap l := by
  have HL := Lib.hid hl
  have HR := Lib.hid hr
  clear hl hr
  cases A with
  | none =>
    have h0 : n = 0 := by
      by_cases h : 0 < l.length
      · obtain ⟨b, off, he, _⟩ := HR.out h
        cases he
      · have := HL.out; omega
    subst h0
    have hnil : l = [] := List.length_eq_zero_iff.1 HL.out
    subst hnil
    clear HR HL
    have hq : ∀ W : World, (binOp .eql 22 (.slice none 0 c) (.slice none 0 0)).run Try.prog W = .ok (.bool true) W := fun W => Lib.run_eql_slice_nil W 22 39 none 0 c 0 0 Try.underlying22
    go_enter Try.func114, Try.ntmps114
    go_wp2_with fail
    go_ret
    exact ⟨none, 0, rfl, Below.refl _ _, Own.nil _ _ _ (fun _ => rfl)⟩
  | some p =>
    have HO2 := Lib.hid (Own.empty w 39 2 wkcell (fun _ => rfl))
    have hb0 := (Below.refl w.heap.size w).alloc (Nat.le_refl _) (.cells #[] 39)
    have HB0 := Lib.hid hb0
    have HE2 := Lib.hid (HR.out.below hb0)
    clear hb0
    have hq : ∀ W : World, (binOp .eql 22 (.slice (some p) n c) (.slice none 0 0)).run Try.prog W = .ok (.bool false) W := fun W => Lib.run_eql_slice_nil W 22 39 (some p) n c 0 0 Try.underlying22
    go_enter Try.func114, Try.ntmps114
    go_wp2_with (at_builtin; go_loud (refine wpList_append_els rfl _ _ _ rfl w.heap.size 2 39 (.agg #[.int .i64 0, .int .u32 0]) 16 Try.underlying22 (by kernel_rfl) rfl (by omega) wkcell _ (some ⟨w.heap.size, 0, none⟩) 0 0 [] rfl rfl HO2.out _ _ _ l HL.out rfl _ HE2.out (one_flat (fun a u hu => by simp at hu; rcases hu with rfl | rfl <;> rfl) _) (by unfold maxLen; omega) (by omega) (by rw [size_alloc']; exact Nat.le_succ _) ?_; intro A2 cap2 w3 hown2 hgrow2 hloc2))
    rw [List.nil_append] at hown2
    have HO := Lib.hid hown2
    have HB := Lib.hid (HB0.out.grown hgrow2 (by rw [size_alloc']; omega) (fun g hg => by simp [blkOf] at hg; omega))
    clear hown2 hgrow2 hloc2
    go_ret
    exact ⟨A2, cap2, rfl, HB.out, HO.out⟩
end Go.Proofs.Ytdinknpagklkjaa

/- copy: a whole row filled with a slice of its length. Conditions: none. -/
namespace Go.Proofs.Ytdinknpagklkjaa
open Go.RowKit

theorem run_copy_all {P : Program} {α : Type} {f : α → Value} (w : World) (dT sT ty e : TypeId) (g n dc : Nat) (A : Option Addr) (sc B : Nat) (cur : Array Value) (xs : List α) (hu : P.underlying dT = some (.slice e)) (hs : (P.info? e).map (·.size) = some 1)
    (hg : Blk w g e cur) (hc : cur.size = n) (hx : Els w B 1 (fun a => [f a]) A xs) (hn : xs.length = n) (h1 : ∀ a, (f a).oneCell' = true) :
    ∃ w' : World, (Builtin.copy_ #[dT, sT] ty #[.slice (some ⟨g, 0, none⟩) n dc, .slice A n sc]).run P w = .ok (goInt n) w' ∧ Blk w' g e (xs.map f).toArray ∧ Below g w w' ∧ ∀ k, k ≠ g → w'.heap[k]? = w.heap[k]? := by
  by_cases h0 : n = 0
  · subst h0
    have hx0 : xs = [] := List.length_eq_zero_iff.1 hn
    have hcur : cur = #[] := Array.eq_empty_of_size_eq_zero hc
    subst hx0 hcur
    exact ⟨w, run_copy_none w dT sT ty e _ A 0 dc 0 sc hu hs (by simp), hg, Below.refl _ _, fun _ _ => rfl⟩
  · obtain ⟨b, off, rfl, _, _⟩ := hx (by omega)
    have hcs : ∀ j v, (xs.map f)[j]? = some v → w.cell? ((⟨b, off, none⟩ : Addr).add j) = some v := fun j v hv => hx.cells (fun _ => rfl) rfl j v (by rw [flat1]; exact hv)
    have hone : ∀ v ∈ xs.map f, v.oneCell' = true := fun v hv => by
      obtain ⟨a, _, rfl⟩ := List.mem_map.1 hv
      exact h1 a
    have hlen : (xs.map f).length = n := by rw [List.length_map, hn]
    have := run_copy_row (P := P) w dT sT ty e g 0 n dc ⟨b, off, none⟩ n sc cur e (xs.map f) hu hs hg (by rw [hlen]; simp) hcs (by rw [hlen, hc]; omega) hone
    rw [hlen] at this
    have hdrop : cur.toList.take 0 ++ xs.map f ++ cur.toList.drop (0 + n) = xs.map f := by
      rw [List.drop_of_length_le (by simp [hc]), List.take_zero, List.nil_append, List.append_nil]
    rw [hdrop] at this
    exact ⟨_, this, setRow_heap w g cur _ e (0, 0) hg, below_setRow (Below.refl g w) (Nat.le_refl _) _, fun k hk => setRow_other w g k _ hk⟩
end Go.Proofs.Ytdinknpagklkjaa

/- slices.Repeat of one word. Conditions: the slice reads as a list of one; the count is small. -/
namespace Go.Proofs.Ytdinknpagklkjaa
open Go.RowKit
attribute [local go_sem] Oper.semAt_some

set_option maxRecDepth 100000 in
theorem Mul64_oneW (y : Nat) (hy : y < 32) (w : World) : Calls Try.prog 126 #[.int .u64 1, .int .u64 (y : Int)] w fun e w' => e = .returned (.tuple #[.int .u64 0, .int .u64 (y : Int)]) ∧ w' = w := by
  go_enter Try.func126, Try.ntmps126
  go_wp2_with fail
  refine bodyPost_ret (v := .tuple #[.int .u64 0, .int .u64 (y : Int)]) ?_ rfl ⟨rfl, rfl⟩
  simp [results, Try.results126, go_sem]
  clear w
  revert y
  decide +kernel

set_option maxRecDepth 100000 in
theorem Mul_oneW (y : Nat) (hy : y < 32) (w : World) : Calls Try.prog 100 #[.int .u64 1, .int .u64 (y : Int)] w fun e w' => e = .returned (.tuple #[.int .u64 0, .int .u64 (y : Int)]) ∧ w' = w := by
  have H := Lib.hid (Mul64_oneW y hy w)
  go_enter Try.func100, Try.ntmps100
  go_wp2_with fail
  refine H.out.mono ?_
  clear H
  rintro e w' ⟨rfl, rfl⟩
  go_wp2_with fail
  refine bodyPost_ret (v := .tuple #[.int .u64 0, .int .u64 (y : Int)]) ?_ rfl ⟨rfl, rfl⟩
  simp [results, Try.results100, go_sem]

/-- A row of k whose first n are x. -/
def rowW (n k : Nat) (x : BitVec 32) : Array Value := (List.replicate n (Value.int .u32 (wN x)) ++ List.replicate (k - n) (Value.int .u32 0)).toArray
theorem rowW_size {n k : Nat} (h : n ≤ k) (x : BitVec 32) : (rowW n k x).size = k := by simp [rowW]; omega
theorem rowW_zero (k : Nat) (x : BitVec 32) : madeCells #[.int .u32 0] k = rowW 0 k x := by
  refine Array.ext' ?_
  rw [show madeCells #[Value.int .u32 0] k = madeCells #[Value.int .u32 (wN w0)] k from rfl, made_flat (fun y : BitVec 32 => Value.int .u32 (wN y)) w0 k, flat1]
  simp [rowW, wN_0]
theorem rowW_full (k : Nat) (x : BitVec 32) : rowW k k x = madeCells #[.int .u32 (wN x)] k := by
  refine Array.ext' ?_
  rw [made_flat (fun y : BitVec 32 => Value.int .u32 (wN y)) x k, flat1]
  simp [rowW]
theorem rowW_step {n m k : Nat} (h : n + m ≤ k) (x : BitVec 32) : ((rowW n k x).toList.take n ++ List.replicate m (Value.int .u32 (wN x)) ++ (rowW n k x).toList.drop (n + m)).toArray = rowW (n + m) k x := by
  unfold rowW
  congr 1
  rw [List.take_left' (by simp), List.drop_append, List.drop_of_length_le (by simp), List.nil_append]
  simp only [List.length_replicate, List.drop_replicate]
  rw [List.replicate_append_replicate]
  congr 2
  omega
theorem copy_stepW {W : World} {g n m k sc dc : Nat} {x : BitVec 32} {a : Addr} {sl : Nat} (hg : Blk W g 26 (rowW n k x)) (h : n + m ≤ k) (hm : m = Nat.min sl (k - n)) (hc : ∀ j, j < m → W.cell? (a.add j) = some (.int .u32 (wN x))) :
    ∃ W', (Builtin.copy_ #[23, 23] 3 #[.slice (some ⟨g, n, none⟩) (k - n) dc, .slice (some a) sl sc]).run Try.prog W = .ok (goInt m) W' ∧ Blk W' g 26 (rowW (n + m) k x) ∧ Below g W W' := by
  have hlen : (List.replicate m (Value.int .u32 (wN x))).length = m := by simp
  have := run_copy_row (P := Try.prog) W 23 23 3 26 g n (k - n) dc a sl sc (rowW n k x) 26 (List.replicate m (Value.int .u32 (wN x))) (by kernel_rfl) (by kernel_rfl) hg (by rw [hlen]; exact hm)
    (fun j v hv => by
      rw [List.getElem?_replicate] at hv
      split at hv
      · rename_i hj
        injection hv with hv
        rw [← hv]
        exact hc j hj
      · cases hv) (by rw [hlen, rowW_size (by omega)]; exact h) (fun v hv => by rw [List.eq_of_mem_replicate hv]; rfl)
  rw [hlen, rowW_step h] at this
  exact ⟨_, this, setRow_heap W g (rowW n k x) _ 26 (0, 0) hg, below_setRow (Below.refl g W) (Nat.le_refl _) _⟩

set_option maxRecDepth 100000 in
set_option maxHeartbeats 1000000 in
theorem Repeat_words (x : BitVec 32) (A : Option Addr) (c k B : Nat) (w : World) (hk : k ≤ 16) (hr : Els w B 1 wcell A [x]) :
    Calls Try.prog 115 #[.slice A 1 c, .int .i64 k] w fun e w' => e = .returned (.slice (some ⟨w.heap.size, 0, none⟩) k k) ∧ Below w.heap.size w w' ∧ Own w' w.heap.size 26 1 wcell (some ⟨w.heap.size, 0, none⟩) k (List.replicate k x) := by
  have HMUL := Lib.hid (Mul_oneW k (by omega) w)
  obtain ⟨S, hS⟩ : ∃ S, S = w.heap.size := ⟨_, rfl⟩
  have HS := Lib.hid hS
  obtain ⟨b, off, rfl, hbB, e0⟩ := hr.at1 (k := 0) (by simp)
  have hi1 : (Try.prog.info? 26).map (fun i => (i.zero, i.size, i.bytes)) = some (some (.int .u32 0), 1, 4) := rfl
  obtain ⟨i1, a1, b1, c1', d1⟩ := info_parts hi1
  have hm1 : ∀ W : World, (Instr.makeSlice 23 (.int .i64 k) (.int .i64 k)).run Try.prog W = .ok (.slice (some ⟨W.heap.size, 0, none⟩) k k) (W.alloc (.cells (madeCells #[.int .u32 0] k) 26)) := fun W => by
    have := run_make (P := Try.prog) W 23 26 i1 (.int .u32 0) (by kernel_rfl) a1 b1 .i64 .i64 k k (by omega) (Int.le_refl _) (by rw [d1]; omega) (by omega)
    rw [c1', Nat.mul_one, show (Value.int .u32 0).cells = #[Value.int .u32 0] from rfl] at this
    simpa using this
  clear hi1 a1 b1 c1' d1
  have hwk : IntKind.u64.wrap (k : Int) = (k : Int) := by rw [IntKind.wrap_u64]; omega
  have hwi : IntKind.i64.wrap (k : Int) = (k : Int) := by rw [IntKind.wrap_i64]; omega
  have hk0 : ¬ ((k : Int) < 0) := by omega
  have hkb : decide ((9223372036854775807 : Int) < (k : Int)) = false := decide_eq_false (by omega)
  have hkb' : ¬ ((9223372036854775807 : Int) < (k : Int)) := by omega
  obtain ⟨W1, hW1⟩ : ∃ W1, W1 = w.alloc (.cells (madeCells #[.int .u32 0] k) 26) := ⟨_, rfl⟩
  have hb1 : Below S w W1 := by rw [hW1, hS]; exact (Below.refl _ w).alloc (Nat.le_refl _) _
  have hk1 : Blk W1 S 26 (rowW 0 k x) := by rw [hW1, hS, ← rowW_zero]; exact Blk.new w _ _
  have hlt : b < S := by rw [hS]; exact World.block_lt_of_cell? w _ e0
  have e1 : W1.cell? ⟨b, off, none⟩ = some (.int .u32 (wN x)) := (hb1.cell hlt).trans e0
  have hmk := hm1 w
  rw [← hW1, ← hS] at hmk
  obtain ⟨m0, hm0⟩ : ∃ m0, m0 = Nat.min 1 k := ⟨_, rfl⟩
  have hm0k : m0 ≤ k := by rw [hm0]; exact Nat.min_le_right _ _
  have hm01 : k = 0 ∨ 1 ≤ m0 := by
    rw [hm0]
    rcases Nat.eq_zero_or_pos k with h | h
    · exact .inl h
    · exact .inr (Nat.le_min.2 ⟨Nat.le_refl 1, h⟩)
  have hm1' : m0 ≤ 1 := by rw [hm0]; exact Nat.min_le_left _ _
  obtain ⟨W2, hcp, hk2, hb2⟩ := copy_stepW (sc := c) (dc := k) (sl := 1) (a := ⟨b, off, none⟩) hk1 (by omega) hm0 (fun j hj => by
    obtain rfl : j = 0 := by omega
    exact e1)
  rw [Nat.sub_zero] at hcp
  rw [Nat.zero_add] at hk2
  have HB2 : Hid (Below S w W2) := Lib.hid (hb1.trans hb2)
  have HK2 := Lib.hid hk2
  have hg0 : goInt m0 = .int .i64 (m0 : Int) := rfl
  rw [hg0] at hcp
  rw [← hS]
  clear hr hb1 e0 hS hW1 hbB e1 hm1 hm0 hk1 hk2 hb2 hg0 hlt
  go_enter Try.func115, Try.ntmps115
  go_wp2_with fail
  refine HMUL.out.mono ?_
  clear HMUL
  rintro e w' ⟨rfl, rfl⟩
  go_wp2_with fail
  clear hmk hcp
  go_loopw [8] (fun v wr => ∃ n : Nat, n ≤ k ∧ (k = 0 ∨ 1 ≤ n) ∧ v = .int .i64 n ∧ Below S w' wr ∧ Blk wr S 26 (rowW n k x)) (fun v _ => k - (intOf v).toNat)
  case atStart => exact ⟨m0, hm0k, hm01, rfl, HB2.out, HK2.out⟩
  case round =>
    clear HB2 HK2 hm0k hm01 hm1'
    rename World => wr
    obtain ⟨n, hn, hn1, rfl, hb, hk⟩ := hrel
    by_cases hlt : n < k
    · have hlti : (n : Int) < (k : Int) := by omega
      have HKN : Hid (¬ k = n) := Lib.hid (by omega)
      obtain ⟨m, hm⟩ : ∃ m, m = Nat.min n (k - n) := ⟨_, rfl⟩
      have hmn : m ≤ n := by rw [hm]; exact Nat.min_le_left _ _
      have hmk2 : m ≤ k - n := by rw [hm]; exact Nat.min_le_right _ _
      have hm1 : 1 ≤ m := by rw [hm]; exact Nat.le_min.2 ⟨by omega, by omega⟩
      obtain ⟨W3, hcp, hk3, hb3⟩ := copy_stepW (sc := k) (dc := k - n) (sl := n) (a := ⟨S, 0, none⟩) hk.drew (by omega) hm (fun j hj => by
        have hjn : j < n := by omega
        have h1 := hk.drew.cell j
        have h2 : (rowW n k x)[j]? = some (.int .u32 (wN x)) := by simp [rowW, List.getElem?_append, List.getElem?_replicate, hjn]
        rw [h2] at h1
        have h3 : (⟨S, 0, none⟩ : Addr).add j = ⟨S, j, none⟩ := by rw [addr_add, Nat.zero_add]
        rw [h3]
        exact h1)
      have hg0 : goInt m = .int .i64 (m : Int) := rfl
      rw [hg0] at hcp
      have HB3 : Hid (Below S w' W3) := Lib.hid (hb.drew.trans hb3)
      have HK3 := Lib.hid hk3
      have hw1 : IntKind.i64.wrap ((n : Int) + (m : Int)) = ((n + m : Nat) : Int) := by rw [IntKind.wrap_i64]; omega
      clear hk hb hk3 hb3 hm hg0
      go_wp2_with fail
      refine region_plain 99 10 (fun _ => True) (by kernel_rfl) rfl ?_
      refine anyC_reads (by kernel_rfl) [0, 1, 2, 3, 4, 5, 6] ?opl ?ohl 3 _ _ _ (by kernel_rfl) ?okk
      case ohl => (simp only [List.filterMap_cons, List.filterMap_nil, List.getElem?_toArray, List.getElem?_cons_zero, List.getElem?_cons_succ]; try rfl)
      repeat (
        refine readC_step (v := ?_) rfl (fun w' hw' => ?_) ?_
        rotate_left
        focus (clear hw'; go_simp; try with_reducible rfl)
        go_simp)
      refine readC_nil ?_
      refine anyC_one (i := 7) (by kernel_rfl) rfl rfl (.inr trivial) ?_
      go_simp
      rw [if_neg HKN.out, hcp]
      go_simp
      refine anyC_one (i := 8) (by kernel_rfl) rfl rfl (.inr trivial) ?_
      go_simp
      refine anyC_one (i := 9) (by kernel_rfl) rfl rfl (.inr trivial) ?_
      go_simp
      refine anyC_end (by kernel_rfl) (.inr trivial) ?_
      go_wp2_with fail
      go_roundw
      case rel => exact ⟨n + m, by omega, .inr (by omega), by go_num, HB3.out, HK3.out⟩
      case measure => simp [intOf]; omega
    · have hnk : n = k := by omega
      have hlti : ¬ ((n : Int) < (k : Int)) := by omega
      have HO : Hid (Own wr S 26 1 wcell (some ⟨S, 0, none⟩) k (List.replicate k x)) := Lib.hid (by
        rw [hnk, rowW_full] at hk
        exact Own.block1 (f := fun x => .int .u32 (wN x)) (x0 := x) hk (by unfold maxLen; omega) (Nat.le_refl _))
      have HB := Lib.hid hb
      clear hk hb hnk
      go_wp2_with fail
      go_ret
      exact ⟨rfl, HB.out, HO.out⟩
end Go.Proofs.Ytdinknpagklkjaa

/- May a task be with a worker: the program. Conditions: none. -/
namespace Go.Proofs.Ytdinknpagklkjaa
open Go.RowKit
attribute [local go_sem ↓] w_and w_or w_xor w_andNot w_and1 w_and255 w_xor1 w_or0 w_shl w_shl1 w_shr w_sub w_add w_sub1 w_add1
attribute [local go_sem] w_eq0 w_ne0 w_eq1 w_eq w_ne

theorem plc_may (a : Wk) (t : BitVec 32) (w : World) :
    Calls Try.prog 47 #[.agg #[.int .i64 a.1, .int .u32 (wN a.2)], .int .u32 (wN t)] w fun e w' => e = .returned (.bool (mayW t a)) ∧ w.alloc (.cells #[.int .i64 a.1, .int .u32 (wN a.2)] 39) = w' := by
  have h1 := (Blk.new w 39 #[.int .i64 a.1, .int .u32 (wN a.2)]).cell 1
  go_enter Try.func47, Try.ntmps47
  go_wp2_with fail
  go_ret
  exact ⟨rfl, rfl⟩
end Go.Proofs.Ytdinknpagklkjaa

/- The net of workers and tasks is made: one arc more. Conditions: none. -/
namespace Go.Proofs.Ytdinknpagklkjaa
open Go.RowKit

/-- A block of another kind stays, when a row is appended to. -/
theorem Blk.past {α : Type} {w w' : World} {q lo c cap : Nat} {e t : TypeId} {cs : Array Value} {f : α → List Value} {A : Option Addr} {l : List α} (h : Blk w q t cs) (hg : w.grownBy w' (blkOf A)) (ho : Own w lo e c f A cap l) (ht : e ≠ t) : Blk w' q t cs := by
  refine h.grown hg fun hgA => ?_
  rcases ho.2.2 with hn | ⟨g', cp, cur', hv, hb', hg', r⟩
  · have hAn : A = none := by
      have := hn.1
      simp only [Value.slice.injEq] at this
      exact this.1
    rw [hAn] at hgA
    cases hgA
  · have hA' : A = some ⟨g', 0, none⟩ := by
      simp only [Value.slice.injEq] at hv
      exact hv.1
    rw [hA'] at hgA
    have : q = g' := by simpa [blkOf] using hgA
    subst this
    have h2 : Blk w q e cur' := hg'
    exact h2.differ h ht rfl
theorem own_far_blk {α : Type} {w : World} {q lo c cap : Nat} {e t : TypeId} {cs : Array Value} {f : α → List Value} {A : Option Addr} {l : List α} (ho : Own w lo e c f A cap l) (h : Blk w q t cs) (ht : e ≠ t) : blkOf A ≠ some q := by
  intro hgA
  rcases ho.2.2 with hn | ⟨g', cp, cur', hv, hb', hg', r⟩
  · have hAn : A = none := by
      have := hn.1
      simp only [Value.slice.injEq] at this
      exact this.1
    rw [hAn] at hgA
    cases hgA
  · have hA' : A = some ⟨g', 0, none⟩ := by
      simp only [Value.slice.injEq] at hv
      exact hv.1
    rw [hA'] at hgA
    have : g' = q := by simpa [blkOf] using hgA
    subst this
    have h2 : Blk w g' e cur' := hg'
    exact h2.differ h ht rfl
/-- What a step that makes one arc more leaves alone. -/
structure ArcKept (P lo : Nat) (w w' : World) : Prop where
  blk : ∀ q t cs, Blk w q t cs → q ≠ P → t ≠ 70 → Blk w' q t cs
  bel : ∀ B, B ≤ P → B ≤ lo → Below B w w'
theorem place_arc (P lo N m cap : Nat) (A : Option Addr) (l : List Arc) (f t mst : Int) (w : World) (hl : l.length = m) (hm : m ≤ 1000) (hlo : lo ≤ w.heap.size) (hk : Blk w P 64 #[.int .i64 N, .slice A m cap]) (ho : Own w lo 70 4 Arc.cells A cap l) :
    Calls Try.prog 90 #[.int .i64 f, .int .i64 t, .int .i64 mst, .pointer (some ⟨P, 0, none⟩)] w fun e w' => (∃ v, e = .returned v) ∧ ∃ A' cap', Blk w' P 64 #[.int .i64 N, .slice A' (m + 1) cap'] ∧ Own w' lo 70 4 Arc.cells A' cap' (l ++ [⟨f, t, mst, 0⟩]) ∧ ArcKept P lo w w' := by
  have c1 := hk.cell 1
  have HK := Lib.hid hk
  have HO := Lib.hid ho
  have HL := Lib.hid hl
  clear hk ho hl
  go_enter Try.func90, Try.ntmps90
  go_wp2_with (at_builtin; go_loud (
    refine wpList_push rfl _ _ _ rfl lo 4 70 (.agg #[.int .i64 0, .int .i64 0, .int .i64 0, .int .i64 0]) 32 Try.underlying62 (by kernel_rfl) rfl (by omega) Arc.cells w #[.int .i64 f, .int .i64 t, .int .i64 mst, .int .i64 0] A m cap l HL.out rfl HO.out 1 [⟨f, t, mst, 0⟩] rfl rfl _ rfl rfl (by simp [Value.oneCell']) (by unfold maxLen; omega) (by omega) hlo ?_
    intro A7 cap7 w7 hown7 hgrow7 hloc7
    have hk7 := (HK.out.alloc (.cells #[.int .i64 f, .int .i64 t, .int .i64 mst, .int .i64 0] 70)).past hgrow7 (HO.out.alloc _) (by decide)
    have f7 := hk7.frozen 1
    have d7 := hk7.cell 1
    have HK7 := Lib.hid hk7
    have HO7 := Lib.hid hown7
    have HG7 := Lib.hid hgrow7
    clear hown7 hgrow7 hloc7 hk7))
  go_end0
  have hb1 : ∀ B, B ≤ P → B ≤ lo → Below B w w7 := fun B h1 h2 => ((Below.refl B w).alloc (by omega) (.cells #[.int .i64 f, .int .i64 t, .int .i64 mst, .int .i64 0] 70)).grown HG7.out (by rw [size_alloc']; omega) (fun g e => by have := (HO.out.lt g e).1; omega)
  refine ⟨⟨_, rfl⟩, A7, cap7, by have := HK7.out.put 1 (.slice A7 (m + 1) cap7); exact this, ?_, ⟨fun q ty cs hq hne ht => ?_, fun B h1 h2 => (hb1 B h1 h2).setCell (p := ⟨P, 1, none⟩) h1 _⟩⟩
  · refine HO7.out.far (p := ⟨P, 1, none⟩) (fun e => ?_) _
    exact own_far_blk HO7.out HK7.out (by decide) e
  · exact ((hq.alloc (.cells #[.int .i64 f, .int .i64 t, .int .i64 mst, .int .i64 0] 70)).past HG7.out (HO.out.alloc _) (fun e => ht e.symm)).far (p := ⟨P, 1, none⟩) hne _
end Go.Proofs.Ytdinknpagklkjaa
