/- All orders: the program's search hands them over one by one. Conditions: none. -/
import Derived.Test.YtpinhmhempbmoaaOrdP
import Derived.Test.YtpinhmhempbmoaaIter
import Derived.Test.YtpinhmhempbmoaaOwnIn
import Derived.Test.YtpinhmhempbmoaaRegC
import Derived.Test.YtpinhmhempbmoaaNats
import Derived.Test.YtpinhmhempbmoaaMade
import Derived.Laws.OwnMore
import Derived.Laws.EntriesVeiled
namespace Go.Proofs.Ytpinhmhempbmoaa
open Go.RowKit Go.Shelf
attribute [local go_sem] Oper.semAt_some
attribute [local go_sem ↓] n_shlp

/-- Those that are left, as a word. -/
def leftN (n : Nat) (p : List Nat) : Nat := mkS (fun i => !p.contains i) n
theorem leftN_bit (n : Nat) (p : List Nat) (i : Nat) : (leftN n p).testBit i = (decide (i < n) && !p.contains i) := mkS_bit _ n i
theorem leftN_lt (n : Nat) (p : List Nat) : leftN n p < 2 ^ n := Nat.lt_pow_two_of_testBit _ fun i hi => by rw [leftN_bit, decide_eq_false (by omega)]; rfl
theorem leftN_snoc {n k : Nat} {p : List Nat} (hk : k < n) (hp : p.contains k = false) : nXor (leftN n p) (pw k) = leftN n (p ++ [k]) := by
  apply Nat.eq_of_testBit_eq
  intro i
  unfold nXor pw
  rw [Nat.testBit_xor, leftN_bit, leftN_bit, Nat.testBit_two_pow]
  by_cases e : k = i
  · subst e
    have h1 : (p ++ [k]).contains k = true := by simp
    rw [hp, h1, decide_eq_true hk]
    simp
  · have h1 : (p ++ [k]).contains i = p.contains i := by
      rw [Bool.eq_iff_iff, List.contains_iff_mem, List.contains_iff_mem, List.mem_append, List.mem_singleton]
      exact ⟨fun h => h.elim id (fun h => absurd h.symm e), .inl⟩
    rw [h1, decide_eq_false e]
    simp
theorem leftN_nil (n : Nat) : leftN n [] = 2 ^ n - 1 := by
  apply Nat.eq_of_testBit_eq
  intro i
  rw [leftN_bit, Nat.testBit_two_pow_sub_one]
  simp
theorem leftN_full {n : Nat} {p : List Nat} (hl : p.length = n) (hnd : p.Nodup) (hb : ∀ i ∈ p, i < n) : leftN n p = 0 := by
  apply Nat.eq_of_testBit_eq
  intro i
  rw [leftN_bit, Nat.zero_testBit]
  by_cases h : i < n
  · have hmem : i ∈ p := Classical.byContradiction fun hno => by
      have hnd2 : (i :: p).Nodup := List.nodup_cons.2 ⟨hno, hnd⟩
      have hsub : (i :: p) ⊆ List.range n := fun j hj => by
        rcases List.mem_cons.1 hj with rfl | hj
        · exact List.mem_range.2 h
        · exact List.mem_range.2 (hb j hj)
      have := hnd2.length_le_of_subset hsub
      rw [List.length_range, List.length_cons, hl] at this
      omega
    rw [List.contains_iff_mem.2 hmem]
    simp
  · rw [decide_eq_false h]; rfl
theorem leftN_some {n k : Nat} {p : List Nat} (hk : k < n) (h : p.contains k = false) : leftN n p ≠ 0 := fun e => by
  have h1 := leftN_bit n p k
  rw [e, Nat.zero_testBit, h, decide_eq_true hk] at h1
  cases h1
theorem leftN_more {n f : Nat} {p : List Nat} (hl : p.length + (f + 1) = n) : leftN n p ≠ 0 := fun e => by
  have hall : ∀ i, i < n → i ∈ p := fun i hi => Classical.byContradiction fun hno => leftN_some hi (by simpa using hno) e
  have hsub : List.range n ⊆ p := fun i h => hall i (List.mem_range.1 h)
  have := (List.nodup_range (n := n)).length_le_of_subset hsub
  rw [List.length_range] at this
  omega

theorem own_at {α : Type} {w w' : World} {B c cap g : Nat} {e : TypeId} {f : α → List Value} {l : List α} (h : Own w B e c f (some ⟨g, 0, none⟩) cap l) (hg : w'.heap[g]? = w.heap[g]?) : Own w' B e c f (some ⟨g, 0, none⟩) cap l := by
  refine ⟨h.1, h.2.1, ?_⟩
  rcases h.2.2 with hn | ⟨g', cp, cur, hv, hb, hh, r⟩
  · exact .inl hn
  · have hv' := hv
    injection hv' with h1 h2 h3
    injection h1 with h1
    injection h1 with h1 _ _
    subst h1
    exact .inr ⟨g, cp, cur, hv, hb, hg.trans hh, r⟩
theorem own_made {w : World} {B g n : Nat} {e : TypeId} (h : Blk w g e (madeCells #[.int .i64 0] n)) (hn : n ≤ maxLen) (hB : B ≤ g) : Own w B e 1 icell (some ⟨g, 0, none⟩) n [] :=
  ⟨fun _ => rfl, rfl, .inr ⟨g, n, _, rfl, hB, h, Nat.zero_le _, hn, by simp [madeCells], by simp⟩⟩
theorem push_room {P : Program} {w : World} {t ty e : TypeId} {B g q n : Nat} {l : List Int} {x : Int} (ht : P.underlying t = some (.slice e)) (hI : (P.info? e).map (fun i => (i.zero, i.size, i.bytes)) = some (some (.int .i64 0), 1, 8)) (h : Own w B e 1 icell (some ⟨g, 0, none⟩) n l) (hq : l.length = q) (hqn : q < n) :
    ∃ w', (Builtin.append_ #[t, t] ty #[.slice (some ⟨g, 0, none⟩) q n, .slice (some ⟨w.heap.size, 0, none⟩) 1 1]).run P (w.alloc (.cells #[.int .i64 x] e)) = .ok (.slice (some ⟨g, 0, none⟩) (q + 1) n) w' ∧
      Own w' B e 1 icell (some ⟨g, 0, none⟩) n (l ++ [x]) ∧ (w.alloc (.cells #[.int .i64 x] e)).grownBy w' (some g) := by
  obtain ⟨i, hi, hz, hsz, hby⟩ := info_parts hI
  have ho := h.alloc (.cells #[.int .i64 x] e)
  have hk := Blk.new w e #[.int .i64 x]
  subst hq
  obtain ⟨w', h1, h2, h3⟩ := run_append_fits (P := P) (w.alloc (.cells #[.int .i64 x] e)) B t ty e i 1 ht hi hsz g l.length n _ ho.2 ⟨w.heap.size, 0, none⟩ 1 1 [.int .i64 x] rfl (fun j u hu => by
    match j, hu with
    | 0, hu => have : u = .int .i64 x := by simpa using hu.symm
               rw [this]; exact hk.cell 0) (fun u hu => by simp at hu; rw [hu]; rfl) (by omega)
  refine ⟨w', h1, ⟨fun _ => rfl, ?_⟩, h3⟩
  rw [List.length_append, List.flatMap_append]
  exact h2

theorem bool_orA (b : Bool) : b = false ∨ b = true := by cases b <;> simp
/-- The search under way: what lies in its own blocks. -/
structure OnSt (b n yl : Nat) (p : List Nat) (W : World) : Prop where
  size : b + 5 ≤ W.heap.size
  num : Blk W b 3 #[.int .i64 n]
  y : Blk W (b + 1) 117 #[.func (.yield yl) #[] #[]]
  row : Own W (b + 2) 3 1 icell (some ⟨b + 2, 0, none⟩) n (intsOf p)
  sl : Blk W (b + 3) 28 #[.slice (some ⟨b + 2, 0, none⟩) p.length n]
  fn : Blk W (b + 4) 123 #[.func (.func 92) #[] #[.pointer (some ⟨b + 1, 0, none⟩), .pointer (some ⟨b + 3, 0, none⟩), .pointer (some ⟨b, 0, none⟩), .pointer (some ⟨b + 4, 0, none⟩)]]
def OrdKP (b : Nat) (W W' : World) : Prop := W.heap.size ≤ W'.heap.size ∧ ∀ k, b ≤ k → k < b + 5 → W'.heap[k]? = W.heap[k]?
theorem OnSt.kp {b n yl : Nat} {p : List Nat} {W W' : World} (h : OnSt b n yl p W) (hk : OrdKP b W W') : OnSt b n yl p W' :=
  ⟨Nat.le_trans h.size hk.1, (hk.2 b (by omega) (by omega)).trans h.num, (hk.2 (b + 1) (by omega) (by omega)).trans h.y, own_at h.row (hk.2 (b + 2) (by omega) (by omega)), (hk.2 (b + 3) (by omega) (by omega)).trans h.sl, (hk.2 (b + 4) (by omega) (by omega)).trans h.fn⟩
theorem OnSt.drew {b n yl : Nat} {p : List Nat} {W : World} (h : OnSt b n yl p W) : OnSt b n yl p W.drew := h.kp ⟨Nat.le_refl _, fun _ _ _ => rfl⟩
def OrdAt (b : Nat) (x : List Nat) (W : World) : Prop := b + 5 ≤ W.heap.size ∧ Els W (b + 5) 1 icell (some ⟨b + 2, 0, none⟩) (intsOf x)
theorem OnSt.at_ {b n yl : Nat} {p : List Nat} {W : World} (h : OnSt b n yl p W) : OrdAt b p W := ⟨h.size, fun h0 => by
  obtain ⟨g, off, e, _, hc⟩ := h.row.els h0
  have e' := e
  injection e' with e'
  injection e' with e'
  exact ⟨g, off, e, by omega, hc⟩⟩
abbrev OrdSt (b : Nat) (A B : World) : Prop := Held [b + 2, b + 3] A B
abbrev ordArgs (b n : Nat) : List Nat → Array Value := fun _ => #[.slice (some ⟨b + 2, 0, none⟩) n n]

set_option maxRecDepth 100000 in
set_option maxHeartbeats 1000000 in
theorem queue_on (n b yl : Nat) (hn : n ≤ 7) (xs : List (List Nat)) (J Jx : List (List Nat) → World → Prop) (hst : ∀ s A B, J s A → OrdSt b A B → J s B) (hstx : ∀ s A B, Jx s A → OrdSt b A B → Jx s B)
    (hY : ∀ m pre x W1, J pre W1 → OrdAt b x W1 → pre ++ [x] <+: xs → YieldAt Fence.wide m Try.prog yl (ordArgs b n x) W1 fun e W' => (e = .returned (.bool true) ∧ J (pre ++ [x]) W' ∧ OrdKP b W1 W') ∨ (e = .returned (.bool false) ∧ Jx (pre ++ [x]) W')) :
    ∀ (f : Nat) (p : List Nat) (pre : List (List Nat)) (m : Nat) (W : World), p.length + f = n → p.Nodup → (∀ i ∈ p, i < n) → OnSt b n yl p W → J pre W → pre ++ permsF n f p <+: xs →
      CallsIn Fence.wide m Try.prog 92 #[.int .i64 (leftN n p), .pointer (some ⟨b + 1, 0, none⟩), .pointer (some ⟨b + 3, 0, none⟩), .pointer (some ⟨b, 0, none⟩), .pointer (some ⟨b + 4, 0, none⟩)] W fun e W' =>
        (e = .returned (.bool true) ∧ OnSt b n yl p W' ∧ J (pre ++ permsF n f p) W') ∨ (e = .returned (.bool false) ∧ ∃ pre', pre' <+: xs ∧ Jx pre' W') := by
  have HST := Lib.hid hst
  have HSTX := Lib.hid hstx
  have HY := Lib.hid hY
  clear hst hstx hY
  intro f
  induction f with
  | zero =>
    intro p pre m W hlf hnd hb hon hj hpx
    have h0 : leftN n p = 0 := leftN_full (by omega) hnd hb
    have hpl : p.length = n := by omega
    have hp0 : permsF n 0 p = [p] := rfl
    rw [hp0] at hpx
    obtain ⟨fn, tmps, assign, body, hy, hR⟩ := HY.out (m - 1) pre p W hj hon.at_ hpx
    have hR' := Lib.hid hR
    have HON := Lib.hid hon
    have c0 := hon.y.cell 0
    have c1 := hon.sl.cell 0
    rw [hpl] at c1
    have HPX := Lib.hid hpx
    rw [h0, hp0]
    clear hnd hb hon hj hpx hR
    refine callsIn_of_wp Try.func92 rfl trivial ?_ rfl
    simp only [Try.ntmps92, List.size_toArray, List.length_cons, List.length_nil, Nat.reduceAdd, Nat.reduceSub, Array.replicate_succ, Array.replicate_zero, List.push_toArray, List.append_toArray, List.nil_append, List.cons_append]
    gi_wp2_with fail
    refine ⟨(fun h => by cases h), hR'.out.mono ?_⟩
    clear hR' hy
    rintro e W3 (⟨rfl, hJ3, hk3⟩ | ⟨rfl, hJx3⟩)
    · have HON3 := Lib.hid (HON.out.kp hk3)
      have HJ3 := Lib.hid hJ3
      clear hJ3 hk3
      gi_wp2_with fail
      go_ret
      exact .inl ⟨rfl, HON3.out, HJ3.out⟩
    · have HJX := Lib.hid hJx3
      clear hJx3
      gi_wp2_with fail
      go_ret
      exact .inr ⟨rfl, _, HPX.out, HJX.out⟩
  | succ f ih =>
    intro p pre m W hlf hnd hb hon hj hpx
    have HIH := Lib.hid ih
    have HND := Lib.hid hnd
    have HBD := Lib.hid hb
    have HPX := Lib.hid hpx
    have HON := Lib.hid hon
    have HJ : Hid (J (pre ++ (List.range 0).flatMap (nextF n f p)) W) := Lib.hid (by
      rw [List.range_zero, List.flatMap_nil, List.append_nil]; exact hj)
    have hpos : (((leftN n p : Nat) : Int) == 0) = false := by
      have := leftN_more hlf
      simp; omega
    have hlim : leftN n p ≤ 1048576 := by
      have h1 := leftN_lt n p
      have h2 : 2 ^ n ≤ 2 ^ 7 := Nat.pow_le_pow_right (by omega) hn
      omega
    have c0 := hon.num.cell 0
    clear ih hnd hb hon hj hpx
    refine callsIn_of_wp Try.func92 rfl trivial ?_ rfl
    simp only [Try.ntmps92, List.size_toArray, List.length_cons, List.length_nil, Nat.reduceAdd, Nat.reduceSub, Array.replicate_succ, Array.replicate_zero, List.push_toArray, List.append_toArray, List.nil_append, List.cons_append]
    gi_wp2_with fail
    clear c0
    gi_loopw [14] (fun s14 wr => ∃ k : Nat, k ≤ n ∧ s14 = .int .i64 k ∧ OnSt b n yl p wr ∧ J (pre ++ (List.range k).flatMap (nextF n f p)) wr) (fun s14 _ => n - (intOf s14).toNat)
    case atStart => exact ⟨0, by omega, rfl, HON.out, HJ.out⟩
    case round =>
      clear HON HJ
      rename World => wr
      obtain ⟨k, hk, rfl, hon, hj⟩ := hrel
      have HON := Lib.hid hon
      have HJ := Lib.hid hj
      clear hon hj
      by_cases hlt : k < n
      · have hbit := n_bit1 (leftN n p) k hlim
        rw [leftN_bit, decide_eq_true hlt, Bool.true_and] at hbit
        have HNX : Hid (nextF n f p k = if p.contains k then [] else permsF n f (p ++ [k])) := Lib.hid rfl
        rcases bool_orA (p.contains k) with hc | hc
        · rw [hc] at hbit HNX
          simp only [Bool.not_false] at hbit
          obtain ⟨q, hq⟩ : ∃ q, q = p.length := ⟨_, rfl⟩
          have hqn : q < n := by omega
          have hqn1 : (q : Int) < (n : Int) := by omega
          have hlen : (intsOf p).length = q := by rw [intsOf, List.length_map, hq]
          obtain ⟨w5, hrun, ho5, hg5⟩ := push_room (P := Try.prog) (w := wr) (t := 28) (ty := 28) (x := (k : Int)) (by kernel_rfl) (by kernel_rfl) HON.out.row hlen hqn
          have he5 : intsOf p ++ [(k : Int)] = intsOf (p ++ [k]) := by simp [intsOf]
          rw [he5] at ho5
          have hsl5 : Blk w5 (b + 3) 28 #[.slice (some ⟨b + 2, 0, none⟩) p.length n] := (HON.out.sl.alloc _).grown hg5 (by simp)
          have hfn5 := (HON.out.fn.alloc (.cells #[.int .i64 k] 3)).grown hg5 (by simp)
          have hy5 := (HON.out.y.alloc (.cells #[.int .i64 k] 3)).grown hg5 (by simp)
          have hnum5 := (HON.out.num.alloc (.cells #[.int .i64 k] 3)).grown hg5 (by simp)
          have hz5 : b + 5 ≤ w5.heap.size := Nat.le_trans HON.out.size (Nat.le_trans (by rw [size_alloc']; omega) hg5.size)
          have hh5 : Held [b + 2, b + 3] wr w5 := ⟨hg5.os, hg5.tape, hg5.output, Nat.le_trans (by rw [size_alloc']; omega) hg5.size, fun z hz hx => (hg5.block z (by rw [size_alloc']; omega) (fun e => by injection e with e; simp at hx; omega)).trans (Below.heap_alloc wr _ z hz)⟩
          obtain ⟨w6, hw6⟩ : ∃ w6, w6 = w5.setCell ⟨b + 3, 0, none⟩ (.slice (some ⟨b + 2, 0, none⟩) (q + 1) n) := ⟨_, rfl⟩
          have hon6 : OnSt b n yl (p ++ [k]) w6 := by
            rw [hw6]
            refine ⟨by simpa [World.setCell] using hz5, hnum5.far (show b ≠ b + 3 by omega) _, hy5.far (show b + 1 ≠ b + 3 by omega) _, ho5.far (by simp [blkOf]) _, ?_, hfn5.far (show b + 4 ≠ b + 3 by omega) _⟩
            have := hsl5.put 0 (.slice (some ⟨b + 2, 0, none⟩) (q + 1) n)
            rw [show (p ++ [k]).length = q + 1 by rw [List.length_append, ← hq]; rfl]
            exact this
          have hh6 : Held [b + 2, b + 3] wr w6 := by rw [hw6]; exact hh5.setCell (p := ⟨b + 3, 0, none⟩) (by simp) _
          have HJ6 := Lib.hid (HST.out _ _ _ HJ.out hh6)
          have c1 := HON.out.sl.cell 0
          rw [← hq] at c1 hsl5
          have c5 := hsl5.cell 0
          have f5 := hsl5.frozen 0
          have HON6 := Lib.hid hon6
          have HW6 := Lib.hid hw6
          have HQ := Lib.hid hq
          have HC := Lib.hid hc
          have hcall := HIH.out (p ++ [k]) (pre ++ (List.range k).flatMap (nextF n f p)) m w6.drew (by rw [List.length_append]; simp; omega) (by
            rw [List.nodup_append]
            refine ⟨HND.out, by simp, fun a ha c hcm => ?_⟩
            rw [List.mem_singleton] at hcm
            intro e
            rw [hcm] at e
            rw [e] at ha
            have := HC.out
            rw [List.contains_iff_mem.2 ha] at this
            cases this) (fun i hi => by
            rcases List.mem_append.1 hi with h | h
            · exact HBD.out i h
            · rw [List.mem_singleton] at h
              rw [h]; exact hlt) hon6.drew (HST.out _ _ _ HJ6.out ((Held.refl _ w6).drew1)) (by
            have h1 := HPX.out
            rw [permsF_succ] at h1
            refine List.IsPrefix.trans ?_ h1
            rw [List.append_assoc]
            rw [show (List.range n).flatMap (nextF n f p) = (List.range k).flatMap (nextF n f p) ++ (nextF n f p k ++ ((List.range (n - (k + 1))).map (fun z => (k + 1) + z)).flatMap (nextF n f p)) from by
              have e1 : List.range n = List.range (k + 1) ++ (List.range (n - (k + 1))).map (fun z => (k + 1) + z) := by rw [← List.range_add]; congr 1; omega
              rw [e1, List.flatMap_append, flat_range_succ, List.append_assoc]]
            rw [HNX.out]
            exact ⟨((List.range (n - (k + 1))).map (fun z => (k + 1) + z)).flatMap (nextF n f p), by simp⟩)
          rw [← leftN_snoc hlt hc] at hcall
          have HCALL := Lib.hid (callsIn_wide.1 hcall)
          have hbut : bits .andNot .i64 ((leftN n p : Nat) : Int) ((pw k : Nat) : Int) = (nXor (leftN n p) (pw k) : Nat) := n_but _ _ hlim (by
            apply Nat.eq_of_testBit_eq
            intro i
            unfold pw
            rw [Nat.testBit_and, leftN_bit, Nat.testBit_two_pow]
            by_cases e : k = i
            · subst e
              rw [HC.out, decide_eq_true hlt]; simp
            · rw [decide_eq_false e]; simp)
          have hk20 : (k : Int) ≤ 20 := by omega
          clear hq hc hg5 ho5 hsl5 hfn5 hy5 hnum5 hh5 hh6 hon6 hw6 hcall he5 hlen
          have HRUN := Lib.hid hrun
          clear hrun
          gi_wp2_with (gi_at_builtin; go_loud (refine wpListIn_append_run rfl (.tmp 22) (.tmp 24) 28 rfl _ _ _ _ rfl rfl HRUN.out ?_))
          rw [← HW6.out]
          have hkn : k < n := by omega
          clear c1 c5 f5 hbit HRUN HW6 hlt
          have g4 := HON6.out.fn.cell 0
          refine region_wide 5 7 (fun w' => w' = w6.drew) (by kernel_rfl) rfl ?_
          refine anyC_reads (by kernel_rfl) [0, 1, 2, 3, 4] ?opl ?ohl 2 _ _ _ (by kernel_rfl) ?okk
          case ohl => (simp only [List.filterMap_cons, List.filterMap_nil, List.getElem?_toArray, List.getElem?_cons_zero, List.getElem?_cons_succ]; try rfl)
          repeat (
            refine readC_step (v := ?_) rfl (fun w' hw' => ?_) ?_
            rotate_left
            focus (subst hw'; go_simp; try with_reducible rfl)
            go_simp)
          refine readC_nil ?_
          refine anyC_one (i := 5) (by kernel_rfl) rfl rfl (.inr rfl) ?_
          go_simp
          refine HCALL.out.mono ?_
          clear HCALL
          rintro e w7 hres
          rcases hres with ⟨rfl, hon7, hj7⟩ | ⟨rfl, pre', hpre', hjx⟩
          · go_simp
            refine anyC_one (i := 6) (by kernel_rfl) rfl rfl (.inl (by kernel_rfl)) ?_
            go_simp
            refine anyC_end (by kernel_rfl) (.inl (by kernel_rfl)) ?_
            have hsl7 := hon7.sl
            rw [show (p ++ [k]).length = q + 1 by rw [List.length_append, ← HQ.out]; rfl] at hsl7
            have c7 := hsl7.cell 0
            have f7 := hsl7.frozen 0
            have hqq : IntKind.i64.wrap (((q + 1 : Nat) : Int) - 1) = (q : Int) := by rw [IntWalk.i64_in _ (by omega)]; omega
            have hon8 : OnSt b n yl p (w7.setCell ⟨b + 3, 0, none⟩ (.slice (some ⟨b + 2, 0, none⟩) q n)) := by
              refine ⟨by simpa [World.setCell] using hon7.size, hon7.num.far (show b ≠ b + 3 by omega) _, hon7.y.far (show b + 1 ≠ b + 3 by omega) _, ?_, ?_, hon7.fn.far (show b + 4 ≠ b + 3 by omega) _⟩
              · have h1 := hon7.row
                rw [show intsOf (p ++ [k]) = intsOf p ++ [(k : Int)] by simp [intsOf]] at h1
                exact h1.pop.far (by simp [blkOf]) _
              · rw [← HQ.out]
                exact hsl7.put 0 _
            have HJ8 := Lib.hid (HST.out _ _ _ hj7 ((Held.refl [b + 2, b + 3] w7).setCell (p := ⟨b + 3, 0, none⟩) (by simp) (.slice (some ⟨b + 2, 0, none⟩) q n)))
            have HON8 := Lib.hid hon8
            clear hsl7 hon7 hj7 hon8
            gi_wp2_with fail
            go_roundw
            case rel => exact ⟨k + 1, by omega, by go_num, HON8.out, by
              rw [flat_range_succ, HNX.out, if_neg (by simp), ← List.append_assoc]
              exact HJ8.out⟩
            case measure => simp [intOf]; omega
          · go_simp
            refine anyC_one (i := 6) (by kernel_rfl) rfl rfl (.inl (by kernel_rfl)) ?_
            go_simp
            refine anyC_end (by kernel_rfl) (.inl (by kernel_rfl)) ?_
            have HJX := Lib.hid hjx
            clear hjx
            gi_wp2_with fail
            go_ret
            exact .inr ⟨rfl, pre', hpre', HJX.out⟩
        · rw [hc] at hbit HNX
          simp only [Bool.not_true] at hbit
          clear hc
          gi_wp2_with fail
          go_roundw
          case rel => exact ⟨k + 1, by omega, by go_num, HON.out, by rw [flat_range_succ, HNX.out]; simpa using HJ.out⟩
          case measure => simp [intOf]; omega
      · obtain rfl : k = n := by omega
        gi_wp2_with fail
        go_ret
        exact .inl ⟨rfl, HON.out, by rw [permsF_succ]; exact HJ.out⟩

set_option maxRecDepth 100000 in
set_option maxHeartbeats 1000000 in
theorem queue_orders (n b yl : Nat) (hn : n ≤ 7) (xs : List (List Nat)) (J Jx : List (List Nat) → World → Prop) (hst : ∀ s A B, J s A → OrdSt b A B → J s B) (hstx : ∀ s A B, Jx s A → OrdSt b A B → Jx s B)
    (hY : ∀ m pre x W1, J pre W1 → OrdAt b x W1 → pre ++ [x] <+: xs → YieldAt Fence.wide m Try.prog yl (ordArgs b n x) W1 fun e W' => (e = .returned (.bool true) ∧ J (pre ++ [x]) W' ∧ OrdKP b W1 W') ∨ (e = .returned (.bool false) ∧ Jx (pre ++ [x]) W'))
    (hxs : xs = permsF n n []) (m : Nat) (W : World) (hsz : W.heap.size = b) (hj : J [] W) :
    CallsIn Fence.wide m Try.prog 73 #[.int .i64 n, .func (.yield yl) #[] #[]] W fun e W' => (∃ v, e = .returned v) ∧ (J xs W' ∨ ∃ pre, pre <+: xs ∧ Jx pre W') := by
  have hi1 : (Try.prog.info? 3).map (fun i => (i.zero, i.size, i.bytes)) = some (some (.int .i64 0), 1, 8) := rfl
  obtain ⟨i1, a1, b1, c1', d1⟩ := info_parts hi1
  have hm1 : ∀ W : World, (Instr.makeSlice 28 (.int .i64 0) (.int .i64 n)).run Try.prog W = .ok (.slice (some ⟨W.heap.size, 0, none⟩) 0 n) (W.alloc (.cells (madeCells #[.int .i64 0] n) 3)) := fun W => by
    have := run_make (P := Try.prog) W 28 3 i1 (.int .i64 0) (by kernel_rfl) a1 b1 .i64 .i64 (0 : Nat) n (by omega) (by omega) (by rw [d1]; omega) (by omega)
    rw [c1', Nat.mul_one, show (Value.int .i64 0).cells = #[Value.int .i64 0] from rfl] at this
    simpa using this
  clear hi1 a1 b1 c1' d1
  have HON := Lib.hid (queue_on n b yl hn xs J Jx hst hstx hY n [] [])
  have HST := Lib.hid hst
  have HJ := Lib.hid hj
  have HXS := Lib.hid hxs
  have hle : (((pw n : Nat) : Int) - 1) = ((leftN n [] : Nat) : Int) := by
    rw [leftN_nil]
    have : 1 ≤ pw n := Nat.one_le_two_pow
    unfold pw at this ⊢
    omega
  have hpw : pw n ≤ 128 := Nat.pow_le_pow_right (by omega) hn
  have hwr : IntKind.i64.wrap (((pw n : Nat) : Int) - 1) = ((leftN n [] : Nat) : Int) := by rw [IntWalk.i64_in _ (by omega), hle]
  have hn20 : (n : Int) ≤ 20 := by omega
  clear hst hstx hY hj hxs hle
  subst hsz
  refine callsIn_of_wp Try.func73 rfl trivial ?_ rfl
  simp only [Try.ntmps73, List.size_toArray, List.length_cons, List.length_nil, Nat.reduceAdd, Nat.reduceSub, Array.replicate_succ, Array.replicate_zero, List.push_toArray, List.append_toArray, List.nil_append, List.cons_append]
  gi_wp2_with fail
  obtain ⟨V, hV⟩ : ∃ V, V = ((((W.alloc (.cells #[.int .i64 n] 3)).alloc (.cells #[.func (.yield yl) #[] #[]] 117)).alloc (.cells (madeCells #[.int .i64 0] n) 3)).alloc (.cells #[.slice (some ⟨W.heap.size + 1 + 1, 0, none⟩) 0 n] 28)).alloc (.cells #[.func (.func 92) #[] #[.pointer (some ⟨W.heap.size + 1, 0, none⟩), .pointer (some ⟨W.heap.size + 1 + 1 + 1, 0, none⟩), .pointer (some ⟨W.heap.size, 0, none⟩), .pointer (some ⟨W.heap.size + 1 + 1 + 1 + 1, 0, none⟩)]] 123) := ⟨_, rfl⟩
  rw [← hV]
  have hon : OnSt W.heap.size n yl [] V := by
    have b0 := (Blk.new W 3 #[.int .i64 n])
    have b1 := Blk.new (W.alloc (.cells #[.int .i64 n] 3)) 117 #[.func (.yield yl) #[] #[]]
    have b2 := Blk.new ((W.alloc (.cells #[.int .i64 n] 3)).alloc (.cells #[.func (.yield yl) #[] #[]] 117)) 3 (madeCells #[.int .i64 0] n)
    have b3 := Blk.new (((W.alloc (.cells #[.int .i64 n] 3)).alloc (.cells #[.func (.yield yl) #[] #[]] 117)).alloc (.cells (madeCells #[.int .i64 0] n) 3)) 28 #[.slice (some ⟨W.heap.size + 1 + 1, 0, none⟩) 0 n]
    have b4 := Blk.new ((((W.alloc (.cells #[.int .i64 n] 3)).alloc (.cells #[.func (.yield yl) #[] #[]] 117)).alloc (.cells (madeCells #[.int .i64 0] n) 3)).alloc (.cells #[.slice (some ⟨W.heap.size + 1 + 1, 0, none⟩) 0 n] 28)) 123 #[.func (.func 92) #[] #[.pointer (some ⟨W.heap.size + 1, 0, none⟩), .pointer (some ⟨W.heap.size + 1 + 1 + 1, 0, none⟩), .pointer (some ⟨W.heap.size, 0, none⟩), .pointer (some ⟨W.heap.size + 1 + 1 + 1 + 1, 0, none⟩)]]
    simp only [size_alloc'] at b1 b2 b3 b4
    rw [hV]
    refine ⟨by simp only [size_alloc']; omega, (((b0.alloc _).alloc _).alloc _).alloc _, ((b1.alloc _).alloc _).alloc _, own_made ((b2.alloc _).alloc _) (by unfold maxLen; omega) (Nat.le_refl _), b3.alloc _, b4⟩
  have hj : J [] V := by
    refine HST.out _ _ _ HJ.out ?_
    rw [hV]
    exact ((((((Held.refl _ W).alloc _).alloc _).alloc _).alloc _).alloc _)
  clear hV
  obtain ⟨b, hb⟩ : ∃ b, b = W.heap.size := ⟨_, rfl⟩
  rw [← hb] at hon HON HST ⊢
  have c0 := hon.num.cell 0
  have c4 := hon.fn.cell 0
  have HCALL := Lib.hid (callsIn_wide.1 (HON.out 0 V.drew (by simp) (by simp) (by simp) hon.drew (HST.out _ _ _ hj (Held.refl _ V).drew1) (by rw [HXS.out]; simp)))
  rw [← HXS.out] at HCALL
  clear hon hj hb HON
  refine region_wide 4 5 (fun w' => w' = V.drew) (by kernel_rfl) rfl ?_
  refine anyC_reads (by kernel_rfl) [0, 1, 2, 3] ?opl ?ohl 1 _ _ _ (by kernel_rfl) ?okk
  case ohl => (simp only [List.filterMap_cons, List.filterMap_nil, List.getElem?_toArray, List.getElem?_cons_zero, List.getElem?_cons_succ]; try rfl)
  repeat (
    refine readC_step (v := ?_) rfl (fun w' hw' => ?_) ?_
    rotate_left
    focus (subst hw'; go_simp; try with_reducible rfl)
    go_simp)
  refine readC_nil ?_
  refine anyC_one (i := 4) (by kernel_rfl) rfl rfl (.inr rfl) ?_
  go_simp
  refine HCALL.out.mono ?_
  clear HCALL
  rintro e w7 hres
  rcases hres with ⟨rfl, hon7, hj7⟩ | ⟨rfl, pre', hpre', hjx⟩
  · have HJ7 := Lib.hid hj7
    clear hj7
    go_simp
    refine anyC_end (by kernel_rfl) (.inl (by kernel_rfl)) ?_
    gi_wp2_with fail
    go_end0
    exact ⟨⟨_, rfl⟩, .inl (by simpa using HJ7.out)⟩
  · have HJX := Lib.hid hjx
    clear hjx
    go_simp
    refine anyC_end (by kernel_rfl) (.inl (by kernel_rfl)) ?_
    gi_wp2_with fail
    go_end0
    exact ⟨⟨_, rfl⟩, .inr ⟨pre', hpre', HJX.out⟩⟩

set_option maxRecDepth 100000 in
set_option maxHeartbeats 1000000 in
/-- The iterator of all orders. -/
theorem orders_seq (n b S2 : Nat) (hn : n ≤ 7) (hS : S2 < b) :
    SeqV Try.prog 72 #[.pointer (some ⟨S2, 0, none⟩)] (ordArgs b n) (fun V => V.heap.size = b ∧ Blk V S2 3 #[.int .i64 n]) (OrdAt b) (OrdKP b) (OrdSt b) (permsF n n []) := by
  intro m yl J Jx W hini hst hstx hY h0
  obtain ⟨hsz, hk2⟩ := hini
  have HON := Lib.hid (queue_orders n b yl hn (permsF n n []) J Jx hst hstx hY rfl)
  have HJ := Lib.hid h0
  have HSZ := Lib.hid hsz
  have c0 := hk2.cell 0
  clear hst hstx hY h0 hk2 hsz
  refine callsIn_of_wp Try.func72 rfl trivial ?_ rfl
  simp only [Try.ntmps72, List.size_toArray, List.length_cons, List.length_nil, Nat.reduceAdd, Nat.reduceSub, Array.replicate_succ, Array.replicate_zero, List.push_toArray, List.append_toArray, List.nil_append, List.cons_append]
  gi_wp2_with fail
  refine wide_callF ((HON.out (m - 1) W HSZ.out HJ.out).mono ?_)
  clear HON
  rintro e w2 ⟨⟨v, rfl⟩, hres⟩
  have HRES := Lib.hid hres
  clear hres
  gi_wp2_with fail
  go_end0
  exact ⟨⟨_, rfl⟩, HRES.out⟩
end Go.Proofs.Ytpinhmhempbmoaa
