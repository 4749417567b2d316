/- What calls are told to be wrong, and who knows what: the reference's part. Conditions: the calls read as a list. -/
import Derived.Test.YtaldkafibemhnaaNewsA
import Derived.Test.YtaldkafibemhnaaInts
namespace Go.Proofs.Ytaldkafibemhnaa
open Go.RowKit
attribute [local go_sem ↓] w_and w_or w_xor w_andNot w_and1 w_and255 w_xor1 w_or0 w_shl w_shl1 w_shr w_sub w_add w_sub1 w_add1
attribute [local go_sem] w_eq0 w_ne0 w_eq1 w_eq w_ne

def callBad' (n : Int) (c : Cl) : Bool := decide (c.1 < 0) || decide (n ≤ c.1) || decide (c.2 < 0) || decide (n ≤ c.2)
theorem callBad_eq (n : Int) (c : Cl) : callBad n c = callBad' n c := by
  unfold callBad callBad' isIn
  rw [Bool.eq_iff_iff]
  simp
  omega

set_option maxRecDepth 100000 in
set_option maxHeartbeats 1000000 in
theorem ref_CallsCheck (n : Int) (A : Option Addr) (m c : Nat) (l : List Cl) (w : World) (hl : l.length = m) (hm : m ≤ maxLen) (hr : Els w w.heap.size 2 ccell A l) :
    Calls Try.prog 29 #[.int .i64 n, .slice A m c] w fun e w' => e = .returned (.int .i64 (callsCheck n l)) ∧ Below w.heap.size w w' := by
  unfold maxLen at hm
  have HN : Hid (callsCheck n l = if n < 1 ∨ 8 < n ∨ 64 < m then 1 else if l.any (callBad n) then 2 else if l.any callSame then 3 else 0) := by subst hl; rfl
  have HL := Lib.hid hl
  clear hl
  by_cases h1 : n < 1
  · have HC := Lib.hid (HN.out.trans (if_pos (.inl h1)))
    go_enter Try.func29, Try.ntmps29
    go_wp2_with fail
    go_ret
    exact ⟨ret_i64 (by rw [HC.out]), Below.refl _ _⟩
  by_cases h2 : 8 < n
  · have HC := Lib.hid (HN.out.trans (if_pos (.inr (.inl h2))))
    go_enter Try.func29, Try.ntmps29
    go_wp2_with fail
    go_ret
    exact ⟨ret_i64 (by rw [HC.out]), Below.refl _ _⟩
  by_cases h3 : 64 < m
  · have HC := Lib.hid (HN.out.trans (if_pos (.inr (.inr h3))))
    go_enter Try.func29, Try.ntmps29
    go_wp2_with fail
    go_ret
    exact ⟨ret_i64 (by rw [HC.out]), Below.refl _ _⟩
  have HM := Lib.hid (HN.out.trans (if_neg (by omega)))
  clear HN
  go_enter Try.func29, Try.ntmps29
  go_wp2_with fail
  go_loopw [22] (fun i wr => ∃ k : Nat, k ≤ m ∧ i = .int .i64 k ∧ Below w.heap.size w wr ∧ (l.take k).any (callBad n) = false) (fun i _ => m - (intOf i).toNat)
  case atStart => exact ⟨0, by omega, rfl, Below.refl _ _, rfl⟩
  case round =>
    obtain ⟨k, hk, rfl, hb, hno⟩ := hrel
    have HK := Lib.hid hno
    clear hno
    by_cases hlt : k < m
    · have hkl : k < l.length := by rw [HL.out]; exact hlt
      obtain ⟨b, off, rfl, hbb, g0, g1⟩ := (hr.below hb).at2 hkl
      obtain ⟨x, hx⟩ : ∃ x, x = l[k] := ⟨_, rfl⟩
      rw [← hx] at g0 g1
      have HX := Lib.hid hx
      have hcb := callBad_eq n x
      clear hx
      have hsz := hb.size
      have hbad : callBad n x = true → callsCheck n l = 2 := fun h => by
        rw [HM.out, if_pos (any_of_get hkl (by rw [← HX.out]; exact h))]
      have HBD := Lib.hid hbad
      have HCB := Lib.hid hcb
      clear hcb hbad
      by_cases p1 : x.1 < 0
      · have HB := Lib.hid (HBD.out (by rw [HCB.out]; simp [callBad', p1]))
        go_wp2_with fail
        go_ret
        exact ⟨ret_i64 (by rw [HB.out]), hb.alloc hsz _⟩
      by_cases p2 : n ≤ x.1
      · have HB := Lib.hid (HBD.out (by rw [HCB.out]; simp [callBad', p2]))
        go_wp2_with fail
        go_ret
        exact ⟨ret_i64 (by rw [HB.out]), hb.alloc hsz _⟩
      by_cases p3 : x.2 < 0
      · have HB := Lib.hid (HBD.out (by rw [HCB.out]; simp [callBad', p3]))
        go_wp2_with fail
        go_ret
        exact ⟨ret_i64 (by rw [HB.out]), hb.alloc hsz _⟩
      by_cases p4 : n ≤ x.2
      · have HB := Lib.hid (HBD.out (by rw [HCB.out]; simp [callBad', p4]))
        go_wp2_with fail
        go_ret
        exact ⟨ret_i64 (by rw [HB.out]), hb.alloc hsz _⟩
      have HG : Hid (callBad n x = false) := by show callBad n x = false; rw [HCB.out]; simp [callBad']; omega
      go_wp2_with fail
      go_roundw
      case rel => exact ⟨k + 1, by omega, by go_num, hb.alloc hsz _, by rw [any_take_succ _ _ _ hkl, HK.out, ← HX.out, HG.out]; rfl⟩
      case measure => simp [intOf]; omega
    · have HM2 := Lib.hid (HM.out.trans (if_neg (by rw [any_take_all (by rw [HL.out]; omega) HK.out]; simp)))
      clear HM HK
      have HB0 := Lib.hid hb
      clear hb
      go_wp2_with fail
      go_loopw [49] (fun i wr => ∃ k : Nat, k ≤ m ∧ i = .int .i64 k ∧ Below w.heap.size w wr ∧ (l.take k).any callSame = false) (fun i _ => m - (intOf i).toNat)
      case atStart => exact ⟨0, by omega, rfl, HB0.out, rfl⟩
      case round =>
        clear hk hlt HB0
        obtain ⟨k, hk, rfl, hb, hno⟩ := hrel
        have HK := Lib.hid hno
        clear hno
        by_cases hlt : k < m
        · have hkl : k < l.length := by rw [HL.out]; exact hlt
          obtain ⟨b, off, rfl, hbb, g0, g1⟩ := (hr.below hb).at2 hkl
          obtain ⟨x, hx⟩ : ∃ x, x = l[k] := ⟨_, rfl⟩
          rw [← hx] at g0 g1
          have HX := Lib.hid hx
          clear hx
          have hsz := hb.size
          rcases hs : (x.1 == x.2) with _ | _
          · have HG : Hid (callSame x = false) := hs
            go_wp2_with fail
            go_roundw
            case rel => exact ⟨k + 1, by omega, by go_num, hb.alloc hsz _, by rw [any_take_succ _ _ _ hkl, HK.out, ← HX.out, HG.out]; rfl⟩
            case measure => simp [intOf]; omega
          · have HG : Hid (callSame x = true) := hs
            go_wp2_with fail
            go_ret
            exact ⟨ret_i64 (by rw [HM2.out, if_pos (any_of_get hkl (by rw [← HX.out]; exact HG.out))]), hb.alloc hsz _⟩
        · go_wp2_with fail
          go_ret
          exact ⟨ret_i64 (by rw [HM2.out, if_neg (by rw [any_take_all (by rw [HL.out]; omega) HK.out]; simp)]), hb⟩

/-- Who has come to know a thing. -/
def knStep (s : List Int) (c : Cl) : List Int := if hasB s c.1 || hasB s c.2 then s ++ [c.1, c.2] else s
def knowsOf (t : Nat) (l : List Cl) : List Int := l.foldl knStep [(t : Int)]
theorem knowsOf_succ (t : Nat) (l : List Cl) (k : Nat) (hk : k < l.length) : knowsOf t (l.take (k + 1)) = knStep (knowsOf t (l.take k)) l[k] := by
  unfold knowsOf
  rw [List.take_succ_eq_append_getElem hk, List.foldl_append]
  rfl
theorem knowsOf_length (t : Nat) (l : List Cl) : (knowsOf t l).length ≤ 2 * l.length + 1 := by
  unfold knowsOf
  have : ∀ (s : List Int), (l.foldl knStep s).length ≤ 2 * l.length + s.length := by
    induction l with
    | nil => intro s; simp
    | cons c l ih =>
      intro s
      rw [List.foldl_cons]
      have := ih (knStep s c)
      unfold knStep at this ⊢
      split at this <;> rename_i hh <;> simp [hh] at this ⊢ <;> omega
  have := this [(t : Int)]
  simpa using this
/-- What number i knows of the first T things, as the reference adds it up. -/
def refCell (l : List Cl) (i : Nat) : Nat → BitVec 32
  | 0 => w0
  | T + 1 => if hasB (knowsOf T l) i then wAdd (refCell l i T) (wShl w1 T) else refCell l i T
def refMid (n : Nat) (l : List Cl) (T k : Nat) : List (BitVec 32) := (List.range n).map fun i => if i < k then refCell l i (T + 1) else refCell l i T
theorem refMid_length (n : Nat) (l : List Cl) (T k : Nat) : (refMid n l T k).length = n := by simp [refMid]
theorem refMid_get (n : Nat) (l : List Cl) (T k i : Nat) (h : i < n) : (refMid n l T k)[i]'(by rw [refMid_length]; exact h) = if i < k then refCell l i (T + 1) else refCell l i T := by simp [refMid]
theorem refMid_end (n : Nat) (l : List Cl) (T : Nat) : refMid n l T n = refMid n l (T + 1) 0 := by
  apply List.ext_getElem (by simp [refMid])
  intro i h1 h2
  rw [refMid_length] at h1
  rw [refMid_get _ _ _ _ _ h1, refMid_get _ _ _ _ _ h1, if_pos h1, if_neg (by omega)]
theorem refMid_zero (n : Nat) (l : List Cl) : refMid n l 0 0 = List.replicate n w0 := by
  apply List.ext_getElem (by simp [refMid])
  intro i h1 h2
  rw [refMid_length] at h1
  rw [refMid_get _ _ _ _ _ h1, if_neg (by omega), List.getElem_replicate]
  rfl
theorem refMid_no (n : Nat) (l : List Cl) (T k : Nat) (hk : k < n) (h : hasB (knowsOf T l) k = false) : refMid n l T (k + 1) = refMid n l T k := by
  apply List.ext_getElem (by simp [refMid])
  intro i h1 h2
  rw [refMid_length] at h1
  rw [refMid_get _ _ _ _ _ h1, refMid_get _ _ _ _ _ h1]
  by_cases h3 : i < k
  · rw [if_pos (by omega), if_pos h3]
  · by_cases h4 : i = k
    · subst h4
      rw [if_pos (by omega), if_neg h3, refCell, h]
      rfl
    · rw [if_neg (by omega), if_neg h3]
theorem refMid_yes (n : Nat) (l : List Cl) (T k : Nat) (hk : k < n) (h : hasB (knowsOf T l) k = true) : refMid n l T (k + 1) = (refMid n l T k).set k (wAdd (refCell l k T) (wShl w1 T)) := by
  apply List.ext_getElem (by simp [refMid])
  intro i h1 h2
  rw [refMid_length] at h1
  rw [refMid_get _ _ _ _ _ h1, List.getElem_set]
  by_cases h4 : k = i
  · subst h4
    rw [if_pos (by omega), if_pos rfl, refCell, h]
    rfl
  · rw [if_neg h4, refMid_get _ _ _ _ _ h1]
    by_cases h3 : i < k
    · rw [if_pos (by omega), if_pos h3]
    · rw [if_neg (by omega), if_neg h3]

set_option maxRecDepth 100000 in
set_option maxHeartbeats 1000000 in
theorem ref_Know (N : Nat) (A : Option Addr) (m c : Nat) (l : List Cl) (w : World) (hN : N ≤ 8) (hl : l.length = m) (hm : m ≤ 64) (hr : Els w w.heap.size 2 ccell A l) :
    Calls Try.prog 31 #[.int .i64 N, .slice A m c] w fun e w' => ∃ A' cap, e = .returned (.slice A' N cap) ∧ Below w.heap.size w w' ∧ Own w' w.heap.size 66 1 ucell A' cap (refMid N l N 0) := by
  have HL := Lib.hid hl
  clear hl
  go_enter Try.func31, Try.ntmps31
  go_wp2_with (at_make; go_loud (refine wpList_make1 rfl _ _ _ rfl w.heap.size 66 4 (fun x => .int .u32 (wN x)) w0 Try.underlying33 (by kernel_rfl) rfl w .i64 .i64 N rfl rfl (by omega) (by unfold maxLen; omega) (Nat.le_refl _) ?_; intro v1 hown1 hgrow1))
  have HO1 : Hid (Own v1 w.heap.size 66 1 ucell (some ⟨w.heap.size, 0, none⟩) N (refMid N l 0 0)) := by
    show Own v1 w.heap.size 66 1 ucell (some ⟨w.heap.size, 0, none⟩) N (refMid N l 0 0)
    rw [refMid_zero]
    exact hown1
  have HB1 := Lib.hid ((Below.refl w.heap.size w).grown hgrow1 (Nat.le_refl _) (fun g hg => by cases hg))
  have HR := Lib.hid hr
  clear hown1 hgrow1 hr
  go_loopw [6] (fun i wr => ∃ T : Nat, T ≤ N ∧ i = .int .i64 T ∧ Below w.heap.size w wr ∧ w.heap.size < wr.heap.size ∧ Own wr w.heap.size 66 1 ucell (some ⟨w.heap.size, 0, none⟩) N (refMid N l T 0)) (fun i _ => N - (intOf i).toNat)
  case atStart => exact ⟨0, by omega, rfl, HB1.out, (HO1.out.lt w.heap.size rfl).2, HO1.out⟩
  case round =>
    clear HO1 HB1
    obtain ⟨T, hT, rfl, hb, hsz, hown⟩ := hrel
    rename World => wT
    have HB := Lib.hid hb
    have HO := Lib.hid hown
    clear hb hown
    by_cases hlt : T < N
    · have hK0 : Own (wT.alloc (.cells #[.int .i64 T] 3)) wT.heap.size 3 1 icell (some ⟨wT.heap.size, 0, none⟩) 1 [(T : Int)] :=
        Own.lit (f := icell) (c := 1) wT wT.heap.size 3 #[.int .i64 T] (fun _ => rfl) [(T : Int)] 1 rfl rfl (by unfold maxLen; omega) (Nat.le_refl _)
      have HK0 := Lib.hid hK0
      clear hK0
      go_wp2_with fail
      go_loopw [22, 7] (fun i s w2 => ∃ (k : Nat) (A2 : Option Addr) (n2 cap2 : Nat), k ≤ m ∧ i = .int .i64 k ∧ s = .slice A2 n2 cap2 ∧ (knowsOf T (l.take k)).length = n2 ∧ Below wT.heap.size wT w2 ∧ wT.heap.size ≤ w2.heap.size ∧ Own w2 wT.heap.size 3 1 icell A2 cap2 (knowsOf T (l.take k))) (fun i _ _ => m - (intOf i).toNat)
      case atStart => exact ⟨0, _, 1, 1, by omega, rfl, rfl, rfl, (Below.refl _ _).alloc (Nat.le_refl _) _, by rw [size_alloc']; omega, HK0.out⟩
      case round =>
        clear HK0
        rename World => w2
        obtain ⟨k, A2, n2, cap2, hk, rfl, rfl, hn2, hb2, hsz2, hkn⟩ := hrel
        have hbw := HB.out.trans (hb2.mono (by omega))
        by_cases hlk : k < m
        · have hkl : k < l.length := by rw [HL.out]; exact hlk
          obtain ⟨b, off, rfl, hbb, g0, g1⟩ := (HR.out.below hbw).at2 hkl
          obtain ⟨x, hx⟩ : ∃ x, x = l[k] := ⟨_, rfl⟩
          have hst := knowsOf_succ T l k hkl
          have hlen := knowsOf_length T (l.take k)
          have hlt1 : (l.take k).length ≤ 64 := by simp; omega
          rw [← hx] at g0 g1 hst
          obtain ⟨kn, hkne⟩ : ∃ kn, kn = knowsOf T (l.take k) := ⟨_, rfl⟩
          rw [← hkne] at hkn hst hn2 hlen
          have HST := Lib.hid hst
          have HKN := Lib.hid (hkn.alloc (.cells #[.int .i64 x.1, .int .i64 x.2] 99))
          have hB2 := hb2.alloc hsz2 (.cells #[.int .i64 x.1, .int .i64 x.2] 99)
          have HB2 := Lib.hid hB2
          have HE := Blk.new w2 99 #[.int .i64 x.1, .int .i64 x.2]
          have e0 := HE.cell 0
          have e1 := HE.cell 1
          have HN2 := Lib.hid hn2
          have hn64 : n2 ≤ 200 := by omega
          clear hx hst hkne hkn hB2 hb2 HE hbw hn2 hlen hlt1
          rcases q1 : hasB kn x.1 with _ | _
          · rcases q2 : hasB kn x.2 with _ | _
            · have HC : Hid (knStep kn x = kn) := by show knStep kn x = kn; simp [knStep, q1, q2]
              have H1 := Lib.hid q1
              have H2 := Lib.hid q2
              clear q1 q2
              go_wp2_with fail
              refine (Has_any A2 n2 cap2 kn x.1 _ _ HN2.out (by unfold maxLen; omega) HKN.out.els).mono ?_
              rintro e w' ⟨rfl, rfl⟩
              rw [H1.out]
              go_wp2_with fail
              refine (Has_any A2 n2 cap2 kn x.2 _ _ HN2.out (by unfold maxLen; omega) HKN.out.els).mono ?_
              rintro e w' ⟨rfl, rfl⟩
              rw [H2.out]
              go_wp2_with fail
              go_roundw
              case rel => exact ⟨k + 1, A2, n2, cap2, by omega, by go_num, rfl, by rw [HST.out, HC.out]; exact HN2.out, HB2.out, by rw [size_alloc']; omega, by rw [HST.out, HC.out]; exact HKN.out⟩
              case measure => simp [intOf]; omega
            · have HC : Hid (knStep kn x = kn ++ [x.1, x.2]) := by show knStep kn x = _; simp [knStep, q1, q2]
              have H1 := Lib.hid q1
              have H2 := Lib.hid q2
              clear q1 q2
              go_wp2_with fail
              refine (Has_any A2 n2 cap2 kn x.1 _ _ HN2.out (by unfold maxLen; omega) HKN.out.els).mono ?_
              rintro e w' ⟨rfl, rfl⟩
              rw [H1.out]
              go_wp2_with fail
              refine (Has_any A2 n2 cap2 kn x.2 _ _ HN2.out (by unfold maxLen; omega) HKN.out.els).mono ?_
              rintro e w' ⟨rfl, rfl⟩
              rw [H2.out]
              go_wp2_with (at_builtin; go_loud (refine wpList_push rfl _ _ _ rfl wT.heap.size 1 3 (.int .i64 0) 8 Try.underlying44 (by kernel_rfl) rfl (by omega) icell _ #[.int .i64 x.1, .int .i64 x.2] A2 n2 cap2 kn HN2.out rfl HKN.out 2 [x.1, x.2] rfl rfl _ rfl (by rw [size_alloc']) (by simp [Value.oneCell']) (by unfold maxLen; omega) (by omega) (by omega) ?_; intro A3 cap3 w4 hown2 hgrow hloc))
              go_roundw
              case rel => exact ⟨k + 1, A3, n2 + 2, cap3, by omega, by go_num, rfl, by rw [HST.out, HC.out, List.length_append, HN2.out]; rfl, ((HB2.out.alloc (by rw [size_alloc']; omega) _).grown hgrow (by rw [size_alloc', size_alloc']; omega) (fun g hg => (HKN.out.lt g hg).1)), by have := hgrow.size; rw [size_alloc', size_alloc'] at this; omega, by rw [HST.out, HC.out]; exact hown2⟩
              case measure => simp [intOf]; omega
          · have HC : Hid (knStep kn x = kn ++ [x.1, x.2]) := by show knStep kn x = _; simp [knStep, q1]
            have H1 := Lib.hid q1
            clear q1
            go_wp2_with fail
            refine (Has_any A2 n2 cap2 kn x.1 _ _ HN2.out (by unfold maxLen; omega) HKN.out.els).mono ?_
            rintro e w' ⟨rfl, rfl⟩
            rw [H1.out]
            go_wp2_with (at_builtin; go_loud (refine wpList_push rfl _ _ _ rfl wT.heap.size 1 3 (.int .i64 0) 8 Try.underlying44 (by kernel_rfl) rfl (by omega) icell _ #[.int .i64 x.1, .int .i64 x.2] A2 n2 cap2 kn HN2.out rfl HKN.out 2 [x.1, x.2] rfl rfl _ rfl (by rw [size_alloc']) (by simp [Value.oneCell']) (by unfold maxLen; omega) (by omega) (by omega) ?_; intro A3 cap3 w4 hown2 hgrow hloc))
            go_roundw
            case rel => exact ⟨k + 1, A3, n2 + 2, cap3, by omega, by go_num, rfl, by rw [HST.out, HC.out, List.length_append, HN2.out]; rfl, ((HB2.out.alloc (by rw [size_alloc']; omega) _).grown hgrow (by rw [size_alloc', size_alloc']; omega) (fun g hg => (HKN.out.lt g hg).1)), by have := hgrow.size; rw [size_alloc', size_alloc'] at this; omega, by rw [HST.out, HC.out]; exact hown2⟩
            case measure => simp [intOf]; omega
        · obtain rfl : k = m := by omega
          have hall : l.take k = l := List.take_of_length_le (by rw [HL.out]; omega)
          have hlen := knowsOf_length T l
          have hll := HL.out
          rw [hall] at hkn hn2
          obtain ⟨kn, hkne⟩ : ∃ kn, kn = knowsOf T l := ⟨_, rfl⟩
          rw [← hkne] at hkn hn2 hlen
          have hn64 : n2 ≤ 200 := by omega
          have HE := Lib.hid hkne
          have HN2 := Lib.hid hn2
          have HKN := Lib.hid hkn
          have HOW := Lib.hid (HO.out.below hb2 (Nat.le_refl _))
          have HB2 := Lib.hid hbw
          clear hall hlen hll hkne hn2 hkn hbw
          go_wp2_with fail
          go_loopw [10] (fun i w3 => ∃ (q : Nat), q ≤ N ∧ i = .int .i64 q ∧ Below w.heap.size w w3 ∧ wT.heap.size ≤ w3.heap.size ∧ Own w3 wT.heap.size 3 1 icell A2 cap2 kn ∧ Own w3 w.heap.size 66 1 ucell (some ⟨w.heap.size, 0, none⟩) N (refMid N l T q)) (fun i _ => N - (intOf i).toNat)
          case atStart => exact ⟨0, by omega, rfl, HB2.out, hsz2, HKN.out, HOW.out⟩
          case round =>
            clear HKN HOW HB2 hb2 hsz2
            rename World => w3
            obtain ⟨q, hq, rfl, hb3, hsz3, hkn, how⟩ := hrel
            have HB3 := Lib.hid hb3
            have HKN := Lib.hid hkn
            have HOW := Lib.hid how
            clear hb3 hkn how
            by_cases hlq : q < N
            · rcases q1 : hasB kn q with _ | _
              · have HC := Lib.hid (refMid_no N l T q hlq (by rw [← HE.out]; exact q1))
                have H1 := Lib.hid q1
                clear q1
                go_wp2_with fail
                refine (Has_any A2 n2 cap2 kn q _ _ HN2.out (by unfold maxLen; omega) HKN.out.els).mono ?_
                rintro e w' ⟨rfl, rfl⟩
                rw [H1.out]
                go_wp2_with fail
                go_roundw
                case rel => exact ⟨q + 1, by omega, by go_num, HB3.out, hsz3, HKN.out, by rw [HC.out]; exact HOW.out⟩
                case measure => simp [intOf]; omega
              · have HC := Lib.hid (refMid_yes N l T q hlq (by rw [← HE.out]; exact q1))
                have H1 := Lib.hid q1
                clear q1
                have hlen := refMid_length N l T q
                have hget := refMid_get N l T q q hlq
                rw [if_neg (by omega)] at hget
                obtain ⟨g, hg, hgb, hgl, ca, fa⟩ := HOW.out.cell1 (f := fun x => .int .u32 (wN x)) (k := q) (by omega)
                obtain rfl : w.heap.size = g := by simpa using hg
                rw [hget] at ca
                obtain ⟨y, hy⟩ : ∃ y, y = refCell l q T := ⟨_, rfl⟩
                rw [← hy] at ca
                have HY := Lib.hid hy
                have hp := HOW.out.put1 (f := fun x => .int .u32 (wN x)) (k := q) (x := wAdd y (wShl w1 T)) (by omega)
                have HP := Lib.hid hp
                clear hg hget hy hp hlen
                go_wp2_with fail
                refine (Has_any A2 n2 cap2 kn q _ _ HN2.out (by unfold maxLen; omega) HKN.out.els).mono ?_
                rintro e w' ⟨rfl, rfl⟩
                rw [H1.out]
                go_wp2_with fail
                go_roundw
                case rel =>
                  refine ⟨q + 1, by omega, by go_num, HB3.out.setCell (Nat.le_refl _) _, by simpa [World.setCell] using hsz3, HKN.out.far ?_ _, by rw [HC.out, ← HY.out]; exact HP.out⟩
                  intro h
                  have := HKN.out.lt _ h
                  simp only at this
                  omega
                case measure => simp [intOf]; omega
            · obtain rfl : q = N := by omega
              go_wp2_with fail
              go_roundw
              case rel => exact ⟨T + 1, by omega, by go_num, HB3.out, by omega, by rw [← refMid_end]; exact HOW.out⟩
              case measure => simp [intOf]; omega
    · obtain rfl : T = N := by omega
      go_wp2_with fail
      go_ret
      exact ⟨_, _, rfl, HB.out, HO.out⟩
end Go.Proofs.Ytaldkafibemhnaa
