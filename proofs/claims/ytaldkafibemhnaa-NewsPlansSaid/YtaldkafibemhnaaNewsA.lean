/- What calls are told to be wrong, and who knows what: the program's part. Conditions: the calls read as a list. -/
import Derived.Test.YtaldkafibemhnaaIdx
import Derived.Test.YtaldkafibemhnaaOwn
import Derived.Laws.EntriesVeiled
namespace Go.Proofs.Ytaldkafibemhnaa
open Go.RowKit
attribute [local go_sem ↓] w_and w_or w_xor w_andNot w_and1 w_and255 w_xor1 w_or0 w_shl w_shl1 w_shr w_sub w_add w_sub1 w_add1
attribute [local go_sem] w_eq0 w_ne0 w_eq1 w_eq w_ne

abbrev Cl := Int × Int
abbrev ccell (a : Cl) : List Value := [.int .i64 a.1, .int .i64 a.2]
abbrev ucell (x : BitVec 32) : List Value := [.int .u32 (wN x)]
def isIn (n i : Int) : Bool := decide (0 ≤ i) && decide (i < n)
def callBad (n : Int) (c : Cl) : Bool := !isIn n c.1 || !isIn n c.2
def callSame (c : Cl) : Bool := c.1 == c.2
def callsCheck (n : Int) (l : List Cl) : Int :=
  if n < 1 ∨ 8 < n ∨ 64 < l.length then 1 else if l.any (callBad n) then 2 else if l.any callSame then 3 else 0
def startW (n : Nat) : List (BitVec 32) := (List.range n).map (wShl w1)
def knowStep (l : List (BitVec 32)) (c : Cl) : List (BitVec 32) :=
  (l.set c.1.toNat (wOr (lw l c.1.toNat) (lw l c.2.toNat))).set c.2.toNat (wOr (lw l c.1.toNat) (lw l c.2.toNat))
def knowW (n : Nat) (l : List Cl) : List (BitVec 32) := l.foldl knowStep (startW n)
theorem startW_length (n : Nat) : (startW n).length = n := by simp [startW]
theorem startW_succ (n : Nat) : startW (n + 1) = startW n ++ [wShl w1 n] := by simp [startW, List.range_succ]
theorem knowStep_length (l : List (BitVec 32)) (c : Cl) : (knowStep l c).length = l.length := by simp [knowStep]
theorem knowW_length (n : Nat) (l : List Cl) : (knowW n l).length = n := by
  unfold knowW
  have : ∀ (s : List (BitVec 32)), (l.foldl knowStep s).length = s.length := by
    induction l with
    | nil => intro s; rfl
    | cons c l ih => intro s; rw [List.foldl_cons, ih, knowStep_length]
  rw [this, startW_length]
theorem knowW_succ (n : Nat) (l : List Cl) (k : Nat) (hk : k < l.length) : knowW n (l.take (k + 1)) = knowStep (knowW n (l.take k)) l[k] := by
  unfold knowW
  rw [List.take_succ_eq_append_getElem hk, List.foldl_append]
  rfl
theorem in_of_notBad {n : Int} {c : Cl} (h : callBad n c = false) : 0 ≤ c.1 ∧ c.1 < n ∧ 0 ≤ c.2 ∧ c.2 < n := by
  unfold callBad isIn at h
  simp at h
  omega

def knowAns (n : Int) (l : List Cl) : List (BitVec 32) := if callsCheck n l = 0 then knowW n.toNat l else []
theorem ent_know2 : Ent Try.prog 55 := ent_of Try.func55 (by kernel_rfl) rfl
theorem ent_know3 : Ent Try.prog 56 := ent_of Try.func56 (by kernel_rfl) rfl
theorem know_is (i n : Int) (g : Nat) (w : World) (h : Blk w g 3 #[.int .i64 n]) :
    Calls Try.prog 53 #[.int .i64 i, .pointer (some ⟨g, 0, none⟩)] w fun e w' => e = .returned (.bool (isIn n i)) ∧ w = w' := by
  have c0 := h.cell 0
  clear h
  by_cases h0 : 0 ≤ i
  · have HE : Hid (isIn n i = decide (i < n)) := by show isIn n i = _; simp [isIn, h0]
    go_enter Try.func53, Try.ntmps53
    go_wp2_with fail
    go_ret
    exact ⟨ret_bool (by rw [HE.out]), rfl⟩
  · have HE : Hid (isIn n i = false) := by show isIn n i = _; simp [isIn, h0]
    go_enter Try.func53, Try.ntmps53
    go_wp2_with fail
    go_ret
    exact ⟨ret_bool (by rw [HE.out]), rfl⟩
theorem know_bad (a : Cl) (n : Int) (g h : Nat) (w : World) (hg : Blk w g 3 #[.int .i64 n]) (hh : Blk w h 68 #[.func (.func 53) #[] #[.pointer (some ⟨g, 0, none⟩)]]) :
    Calls Try.prog 55 #[.agg #[.int .i64 a.1, .int .i64 a.2], .pointer (some ⟨h, 0, none⟩)] w fun e w' => e = .returned (.bool (callBad n a)) ∧ Below w.heap.size w w' := by
  obtain ⟨x, y⟩ := a
  have hl := hh.lt
  have c0 := hh.cell 0
  have HG := Lib.hid (hg.alloc (.cells #[.int .i64 x, .int .i64 y] 99))
  clear hg hh
  rcases h1 : isIn n x with _ | _
  · have HE : Hid (callBad n (x, y) = true) := by show callBad n (x, y) = _; simp [callBad, h1]
    have H1 := Lib.hid h1
    clear h1
    go_enter Try.func55, Try.ntmps55
    go_wp2_with fail
    refine (know_is _ n g _ HG.out).mono ?_
    rintro e w' ⟨rfl, rfl⟩
    rw [H1.out]
    go_wp2_with fail
    go_ret
    exact ⟨ret_bool (by rw [HE.out]), (Below.refl _ _).alloc (Nat.le_refl _) _⟩
  · have HE : Hid (callBad n (x, y) = !isIn n y) := by show callBad n (x, y) = _; simp [callBad, h1]
    have H1 := Lib.hid h1
    clear h1
    rcases h2 : isIn n y with _ | _
    all_goals
      have H2 := Lib.hid h2
      clear h2
      go_enter Try.func55, Try.ntmps55
      go_wp2_with fail
      refine (know_is _ n g _ HG.out).mono ?_
      rintro e w' ⟨rfl, rfl⟩
      rw [H1.out]
      go_wp2_with fail
      refine (know_is _ n g _ HG.out).mono ?_
      rintro e w' ⟨rfl, rfl⟩
      rw [H2.out]
      go_wp2_with fail
      go_ret
      exact ⟨ret_bool (by rw [HE.out, H2.out]; rfl), (Below.refl _ _).alloc (Nat.le_refl _) _⟩
theorem know_same (a : Cl) (w : World) :
    Calls Try.prog 56 #[.agg #[.int .i64 a.1, .int .i64 a.2]] w fun e w' => e = .returned (.bool (callSame a)) ∧ Below w.heap.size w w' := by
  obtain ⟨x, y⟩ := a
  have HE : Hid (callSame (x, y) = (x == y)) := rfl
  go_enter Try.func56, Try.ntmps56
  go_wp2_with fail
  go_ret
  exact ⟨ret_bool (by rw [HE.out]), (Below.refl _ _).alloc (Nat.le_refl _) _⟩

set_option maxRecDepth 100000 in
set_option maxHeartbeats 1000000 in
theorem news_Know (n : Int) (A : Option Addr) (m c : Nat) (l : List Cl) (w : World) (hl : l.length = m) (hm : m ≤ maxLen) (hr : Els w w.heap.size 2 ccell A l) :
    Calls Try.prog 28 #[.int .i64 n, .slice A m c] w fun e w' => ∃ A' k cap, e = .returned (.tuple #[.slice A' k cap, .int .i64 (callsCheck n l)]) ∧ Below w.heap.size w w' ∧ Own w' w.heap.size 66 1 ucell A' cap (knowAns n l) ∧ (knowAns n l).length = k := by
  unfold maxLen at hm
  have HN : Hid (callsCheck n l = if n < 1 ∨ 8 < n ∨ 64 < m then 1 else if l.any (callBad n) then 2 else if l.any callSame then 3 else 0) := by subst hl; rfl
  have HL := Lib.hid hl
  clear hl
  have HB0 := Lib.hid ((Below.refl w.heap.size w).alloc (Nat.le_refl _) (.cells #[.int .i64 n] 3))
  by_cases h1 : n < 1
  · have HC := Lib.hid (HN.out.trans (if_pos (.inl h1)))
    go_enter Try.func28, Try.ntmps28
    go_wp2_with fail
    have HA : Hid (knowAns n l = []) := if_neg (by rw [HC.out]; omega)
    refine bodyPost_ret (v := .tuple #[.slice none 0 0, .int .i64 1]) (by simp [results, Try.results28, go_sem]) rfl ⟨none, 0, 0, by rw [HC.out], HB0.out, by rw [HA.out]; exact Own.nil _ _ _ (fun _ => rfl), by rw [HA.out]; rfl⟩
  by_cases h2 : 8 < n
  · have HC := Lib.hid (HN.out.trans (if_pos (.inr (.inl h2))))
    go_enter Try.func28, Try.ntmps28
    go_wp2_with fail
    have HA : Hid (knowAns n l = []) := if_neg (by rw [HC.out]; omega)
    refine bodyPost_ret (v := .tuple #[.slice none 0 0, .int .i64 1]) (by simp [results, Try.results28, go_sem]) rfl ⟨none, 0, 0, by rw [HC.out], HB0.out, by rw [HA.out]; exact Own.nil _ _ _ (fun _ => rfl), by rw [HA.out]; rfl⟩
  by_cases h3 : 64 < m
  · have HC := Lib.hid (HN.out.trans (if_pos (.inr (.inr h3))))
    go_enter Try.func28, Try.ntmps28
    go_wp2_with fail
    have HA : Hid (knowAns n l = []) := if_neg (by rw [HC.out]; omega)
    refine bodyPost_ret (v := .tuple #[.slice none 0 0, .int .i64 1]) (by simp [results, Try.results28, go_sem]) rfl ⟨none, 0, 0, by rw [HC.out], HB0.out, by rw [HA.out]; exact Own.nil _ _ _ (fun _ => rfl), by rw [HA.out]; rfl⟩
  have HM := Lib.hid (HN.out.trans (if_neg (by omega)))
  clear HN
  go_enter Try.func28, Try.ntmps28
  go_wp2_with fail
  have hg : Blk ((w.alloc (.cells #[.int .i64 n] 3)).alloc (.cells #[.func (.func 53) #[] #[.pointer (some ⟨w.heap.size, 0, none⟩)]] 68)) w.heap.size 3 #[.int .i64 n] := (Blk.new w _ _).alloc _
  have hh : Blk ((w.alloc (.cells #[.int .i64 n] 3)).alloc (.cells #[.func (.func 53) #[] #[.pointer (some ⟨w.heap.size, 0, none⟩)]] 68)) (w.heap.size + 1) 68 #[.func (.func 53) #[] #[.pointer (some ⟨w.heap.size, 0, none⟩)]] := by
    have := Blk.new (w.alloc (.cells #[.int .i64 n] 3)) 68 #[.func (.func 53) #[] #[.pointer (some ⟨w.heap.size, 0, none⟩)]]
    rwa [size_alloc'] at this
  have hb2 : Below w.heap.size w ((w.alloc (.cells #[.int .i64 n] 3)).alloc (.cells #[.func (.func 53) #[] #[.pointer (some ⟨w.heap.size, 0, none⟩)]] 68)) := HB0.out.alloc HB0.out.size _
  have hs2 : ((w.alloc (.cells #[.int .i64 n] 3)).alloc (.cells #[.func (.func 53) #[] #[.pointer (some ⟨w.heap.size, 0, none⟩)]] 68)).heap.size = w.heap.size + 2 := by rw [size_alloc', size_alloc']
  generalize ((w.alloc (.cells #[.int .i64 n] 3)).alloc (.cells #[.func (.func 53) #[] #[.pointer (some ⟨w.heap.size, 0, none⟩)]] 68)) = W2 at *
  have hC := ContainsFunc_calls 55 ent_know2 #[.pointer (some ⟨w.heap.size + 1, 0, none⟩)] (callBad n) A m c l W2 HL.out (by unfold maxLen; omega) ((hr.below hb2).more (by omega))
    (fun a wx _ hb => by simpa using (know_bad a n _ _ wx (hg.below hb (by omega)) (hh.below hb (by omega))).mono fun e w' ⟨he, hw⟩ => ⟨he, hw.mono hb.size⟩)
  have HC := Lib.hid hC
  have HG := Lib.hid hg
  have HB2 := Lib.hid hb2
  clear hg hh hC hb2 HB0
  refine HC.out.mono ?_
  clear HC
  rintro e v1 ⟨rfl, hb1⟩
  have hs1 := hb1.size
  have hbw1 := HB2.out.trans (hb1.mono (by omega))
  have hg1 := HG.out.below hb1 (by omega)
  clear hb1 HB2 HG
  by_cases q1 : l.any (callBad n) = true
  · rw [q1]
    have HC := Lib.hid (HM.out.trans (if_pos q1))
    have HA : Hid (knowAns n l = []) := if_neg (by rw [HC.out]; omega)
    clear q1
    go_wp2_with fail
    refine bodyPost_ret (v := .tuple #[.slice none 0 0, .int .i64 2]) (by simp [results, Try.results28, go_sem]) rfl ⟨none, 0, 0, by rw [HC.out], hbw1, by rw [HA.out]; exact Own.nil _ _ _ (fun _ => rfl), by rw [HA.out]; rfl⟩
  have HM2 := Lib.hid (HM.out.trans (if_neg q1))
  replace q1 : l.any (callBad n) = false := by simpa using q1
  rw [q1]
  have HQ := Lib.hid q1
  clear HM q1
  have hC := ContainsFunc_calls 56 ent_know3 #[] callSame A m c l v1 HL.out (by unfold maxLen; omega) ((hr.below hbw1).more (by omega))
    (fun a wx _ hb => by simpa using (know_same a wx).mono fun e w' ⟨he, hw⟩ => ⟨he, hw.mono hb.size⟩)
  have HC := Lib.hid hC
  clear hC
  go_wp2_with fail
  refine HC.out.mono ?_
  clear HC
  rintro e v3 ⟨rfl, hb3⟩
  have hs3 := hb3.size
  have hbw3 := hbw1.trans (hb3.mono (by omega))
  have hg3 := hg1.below hb3 (by omega)
  clear hb3 hg1
  by_cases q2 : l.any callSame = true
  · rw [q2]
    have HC := Lib.hid (HM2.out.trans (if_pos q2))
    have HA : Hid (knowAns n l = []) := if_neg (by rw [HC.out]; omega)
    clear q2
    go_wp2_with fail
    refine bodyPost_ret (v := .tuple #[.slice none 0 0, .int .i64 3]) (by simp [results, Try.results28, go_sem]) rfl ⟨none, 0, 0, by rw [HC.out], hbw3, by rw [HA.out]; exact Own.nil _ _ _ (fun _ => rfl), by rw [HA.out]; rfl⟩
  have HM3 := Lib.hid (HM2.out.trans (if_neg q2))
  replace q2 : l.any callSame = false := by simpa using q2
  rw [q2]
  have HA : Hid (knowAns n l = knowW n.toNat l) := if_pos HM3.out
  clear HM2 q2
  have c0 := hg3.cell 0
  obtain ⟨N, rfl⟩ : ∃ N : Nat, n = N := ⟨n.toNat, by omega⟩
  have HG := Lib.hid hg3
  have HBW := Lib.hid hbw3
  have HR := Lib.hid hr
  clear hg3 hr hbw1 hbw3
  go_wp2_with fail
  go_loopw [30, 7] (fun i s wr => ∃ (k : Nat) (A1 : Option Addr) (cap : Nat), k ≤ N ∧ i = .int .i64 k ∧ s = .slice A1 k cap ∧ Below w.heap.size w wr ∧ v3.heap.size ≤ wr.heap.size ∧ Own wr w.heap.size 66 1 ucell A1 cap (startW k)) (fun i _ _ => N - (intOf i).toNat)
  case atStart => exact ⟨0, none, 0, by omega, rfl, rfl, HBW.out, Nat.le_refl _, Own.nil _ _ _ (fun _ => rfl)⟩
  case round =>
    obtain ⟨k, A1, cap, hk, rfl, rfl, hb, hsz, hown⟩ := hrel
    by_cases hlt : k < N
    · have hs4 := hb.size
      have HO := Lib.hid hown
      have HB := Lib.hid hb
      clear hown hb
      go_wp2_with (at_builtin; go_loud (refine wpList_push rfl _ _ _ rfl w.heap.size 1 66 (.int .u32 0) 4 Try.underlying33 (by kernel_rfl) rfl (by omega) ucell wr #[.int .u32 (wN (wShl w1 k))] A1 k cap (startW k) (startW_length k) rfl HO.out 1 [wShl w1 k] rfl rfl _ rfl rfl (by simp [Value.oneCell']) (by unfold maxLen; omega) (by omega) (by omega) ?_; intro A2 cap2 w4 hown2 hgrow hloc))
      go_roundw
      case rel => exact ⟨k + 1, A2, cap2, by omega, by go_num, rfl, (HB.out.alloc hs4 _).grown hgrow (by rw [size_alloc']; omega) (fun g hg => (HO.out.lt g hg).1), by have := hgrow.size; rw [size_alloc'] at this; omega, by rw [startW_succ]; exact hown2⟩
      case measure => simp [intOf]; omega
    · obtain rfl : k = N := by omega
      go_wp2_with fail
      go_loopw [41] (fun i wr => ∃ q : Nat, q ≤ m ∧ i = .int .i64 q ∧ Below w.heap.size w wr ∧ Own wr w.heap.size 66 1 ucell A1 cap (knowW k (l.take q))) (fun i _ => m - (intOf i).toNat)
      case atStart => exact ⟨0, by omega, rfl, hb, hown⟩
      case round =>
        clear hb hown
        obtain ⟨q, hq, rfl, hb, hown⟩ := hrel
        have hs4 := hb.size
        by_cases hlt : q < m
        · have hql : q < l.length := by rw [HL.out]; exact hlt
          obtain ⟨b, off, rfl, hbb, g0, g1⟩ := (HR.out.below hb).at2 hql
          have hmem := List.getElem_mem hql
          obtain ⟨x, hx⟩ : ∃ x, x = l[q] := ⟨_, rfl⟩
          have hst := knowW_succ k l q hql
          rw [← hx] at g0 g1 hmem hst
          obtain ⟨xa, xb⟩ := x
          have hin := in_of_notBad (List.any_eq_false.1 HQ.out _ hmem |> (by simpa using ·))
          obtain ⟨i, rfl⟩ : ∃ i : Nat, xa = i := ⟨xa.toNat, by omega⟩
          obtain ⟨j, rfl⟩ : ∃ j : Nat, xb = j := ⟨xb.toNat, by omega⟩
          simp only at hin g0 g1
          have hi : i < k := by omega
          have hj : j < k := by omega
          have hlen := knowW_length k (l.take q)
          obtain ⟨ks, hks⟩ : ∃ ks, ks = knowW k (l.take q) := ⟨_, rfl⟩
          rw [← hks] at hown hlen hst
          have HST := Lib.hid hst
          have hown' := hown.alloc (.cells #[.int .i64 i, .int .i64 j] 99)
          obtain ⟨g, rfl, hgb, hgl, ca, fa⟩ := hown'.cell1 (f := fun x => .int .u32 (wN x)) (k := i) (by omega)
          obtain ⟨g', he, _, _, cb, fb⟩ := hown'.cell1 (f := fun x => .int .u32 (wN x)) (k := j) (by omega)
          obtain rfl : g = g' := by simpa using he
          have hne : g ≠ wr.heap.size := by
            have := hown.lt g rfl
            omega
          have hi' : i < ks.length := by omega
          have hj' : j < ks.length := by omega
          obtain ⟨x, hx1⟩ : ∃ x, x = ks[i] := ⟨_, rfl⟩
          obtain ⟨y, hy1⟩ : ∃ y, y = ks[j] := ⟨_, rfl⟩
          rw [← hx1] at ca
          rw [← hy1] at cb
          have HX := Lib.hid hx1
          have HY := Lib.hid hy1
          have HB := Lib.hid hb
          have HO := Lib.hid hown'
          have HE := Blk.new wr 99 #[.int .i64 i, .int .i64 j]
          have e0 := HE.cell 0
          have e1 := HE.cell 1
          clear hx hst hks hx1 hy1 hown hown' hb he HE hmem
          go_wp2_with fail
          go_quiet (fail)
          go_wp2_with fail
          have hp := (HO.out.drewN (nq + 1)).put1 (f := fun x => .int .u32 (wN x)) (k := i) (x := wOr x y) (by omega)
          have hp2 := hp.put1 (k := j) (x := wOr x y) (by simp; omega)
          obtain ⟨g', he, _, _, cc, fc⟩ := hp.cell1 (f := fun x => .int .u32 (wN x)) (k := j) (by simp; omega)
          obtain rfl : g = g' := by simpa using he
          have HP := Lib.hid hp2
          clear he hp hp2
          go_region
          go_wp2_with fail
          go_roundw
          case rel =>
            refine ⟨q + 1, by omega, by go_num, (((below_drewN (HB.out.alloc hs4 _) _).setCell hgb _).setCell hgb _), ?_⟩
            have := HP.out
            rw [HST.out]
            unfold knowStep
            simp only [Int.toNat_natCast]
            rw [lw_at ks i hi', lw_at ks j hj', ← HX.out, ← HY.out]
            exact this
          case measure => simp [intOf]; omega
        · obtain rfl : q = m := by omega
          have hall : l.take q = l := List.take_of_length_le (by rw [HL.out]; omega)
          have HO : Hid (Own wr w.heap.size 66 1 ucell A1 cap (knowW k l)) := by
            show Own wr w.heap.size 66 1 ucell A1 cap (knowW k l)
            rwa [hall] at hown
          clear hall hown
          have HAL := Lib.hid (knowW_length k l)
          go_wp2_with fail
          refine bodyPost_ret (v := .tuple #[.slice A1 k cap, .int .i64 0]) (by simp [results, Try.results28, go_sem]) rfl ⟨A1, k, cap, by rw [HM3.out], hb, by rw [HA.out]; exact HO.out, by rw [HA.out]; exact HAL.out⟩
end Go.Proofs.Ytaldkafibemhnaa
