/- Who is wrong, and how far all are from one. Conditions: the arcs read as a list. -/
import Derived.Test.YtfaifadfilndmaaReachA
import Derived.BigQuiet
namespace Go.Proofs.Ytfaifadfilndmaa
open Go.RowKit

def outB (N s : Int) : Bool := decide (s < 0 ∨ N ≤ s)
def wrongP (N : Int) (l : List Arc) (ids : List Int) : Int := if netCheck N l = 0 then (if ids.any (outB N) = true then 2 else 0) else netCheck N l
def nodeP (N : Int) (l : List Arc) (s : Int) : Int := if netCheck N l = 0 then (if s < 0 ∨ N ≤ s then 2 else 0) else netCheck N l
theorem wrong_one (N : Int) (l : List Arc) (s : Int) : wrongP N l [s] = nodeP N l s := by
  unfold wrongP nodeP
  split
  · simp [outB]
  · rfl
theorem wrong_none (N : Int) (l : List Arc) : wrongP N l [] = netCheck N l := by
  unfold wrongP
  split
  · rename_i h; simp [h]
  · rfl
theorem any_take {α : Type} (p : α → Bool) (l : List α) {k : Nat} (hk : k < l.length) (h : (l.take k).any p = false) : (l.take (k + 1)).any p = p l[k] := by
  rw [List.take_succ_eq_append_getElem hk, List.any_append, h]
  simp

set_option maxRecDepth 100000 in
set_option maxHeartbeats 1000000 in
theorem short_wrong (N : Int) (A : Option Addr) (n c : Nat) (l : List Arc) (ids : List Int) (C : Option Addr) (m cc : Nat) (w : World) (hl : l.length = n) (hn : n ≤ maxLen) (hm : ids.length = m) (hm8 : m ≤ 8) (hr : Els w w.heap.size 4 Arc.cells A l) (hi : Els w w.heap.size 1 icell C ids) :
    Calls Try.prog 33 #[.agg #[.int .i64 N, .slice A n c], .slice C m cc] w fun e w' => e = .returned (.int .i64 (wrongP N l ids)) ∧ Below w.heap.size w w' := by
  have HC : Hid (Calls Try.prog 55 #[.agg #[.int .i64 N, .slice A n c]] (w.alloc (.cells #[.int .i64 N, .slice A n c] 34)) fun e w' => e = .returned (.int .i64 (netCheck N l)) ∧ Below (w.heap.size + 1) (w.alloc (.cells #[.int .i64 N, .slice A n c] 34)) w') := by
    have := flow_Check N A n c l (w.alloc (.cells #[.int .i64 N, .slice A n c] 34)) hl hn ((hr.alloc (Nat.le_refl _) _).more (by rw [size_alloc']; omega))
    rwa [size_alloc'] at this
  have HB := Lib.hid ((Below.refl w.heap.size w).alloc (Nat.le_refl _) (.cells #[.int .i64 N, .slice A n c] 34))
  have HK := Lib.hid (Blk.new w 34 #[.int .i64 N, .slice A n c])
  have HI := Lib.hid hi
  have HM := Lib.hid hm
  clear hl hn hr hi hm
  go_enter Try.func33, Try.ntmps33
  go_wp2_with fail
  refine HC.out.mono ?_
  clear HC
  rintro e v1 ⟨rfl, hb⟩
  have HB1 := Lib.hid (HB.out.trans (hb.mono (by omega)))
  have c0 := (HK.out.below hb (by omega)).cell 0
  have HK1 := Lib.hid (HK.out.below hb (by omega))
  clear hb HB HK
  by_cases h0 : netCheck N l = 0
  · have HE : Hid (wrongP N l ids = if ids.any (outB N) = true then 2 else 0) := if_pos h0
    rw [h0]
    clear h0
    go_wp2_with fail
    go_loopw [15] (fun s15 wr => ∃ k : Nat, k ≤ m ∧ s15 = .int .i64 k ∧ wr = v1 ∧ (ids.take k).any (outB N) = false) (fun s15 _ => m - (intOf s15).toNat)
    case atStart => exact ⟨0, by omega, rfl, rfl, rfl⟩
    case round =>
      obtain ⟨k, hk, rfl, rfl, ha⟩ := hrel
      by_cases hlt : k < m
      · have hkl : k < ids.length := by rw [HM.out]; exact hlt
        obtain ⟨b, off, rfl, hbb, q0⟩ := (HI.out.below HB1.out).at1 hkl
        have HA : Hid ((ids.take (k + 1)).any (outB N) = outB N ids[k]) := any_take _ _ hkl ha
        have HA2 : Hid (outB N ids[k] = true → ids.any (outB N) = true) := fun h => List.any_eq_true.2 ⟨_, List.getElem_mem hkl, h⟩
        clear ha
        obtain ⟨x, hx⟩ : ∃ x, x = ids[k] := ⟨_, rfl⟩
        rw [← hx] at q0 HA HA2
        clear hx
        have ho : outB N x = decide (x < 0 ∨ N ≤ x) := rfl
        have HO := Lib.hid ho
        clear ho
        by_cases h1 : x < 0
        · have hy : outB N x = true := by rw [HO.out]; simp [h1]
          have HY := Lib.hid (HA2.out hy)
          clear hy
          go_wp2_with fail
          go_ret
          exact ⟨ret_i64 (by rw [HE.out, if_pos HY.out]), HB1.out⟩
        by_cases h2 : N ≤ x
        · have hy : outB N x = true := by rw [HO.out]; simp [h2]
          have HY := Lib.hid (HA2.out hy)
          clear hy
          go_wp2_with fail
          go_ret
          exact ⟨ret_i64 (by rw [HE.out, if_pos HY.out]), HB1.out⟩
        · have hy : outB N x = false := by rw [HO.out]; simp; omega
          have HY := Lib.hid hy
          clear hy
          go_wp2_with fail
          go_roundw
          case rel => exact ⟨k + 1, by omega, by go_num, trivial, by rw [HA.out, HY.out]⟩
          case measure => simp [intOf]; omega
      · have hal : ids.any (outB N) = false := by rw [List.take_of_length_le (by rw [HM.out]; omega)] at ha; exact ha
        have HAL := Lib.hid hal
        clear ha hal
        go_wp2_with fail
        go_ret
        exact ⟨ret_i64 (by rw [HE.out, HAL.out]; rfl), HB1.out⟩
  · have HE : Hid (wrongP N l ids = netCheck N l) := if_neg h0
    have h1 : (netCheck N l != 0) = true := by simpa using h0
    generalize netCheck N l = x at HE h1 h0
    clear h0
    go_wp2_with fail
    go_ret
    exact ⟨ret_i64 (by rw [HE.out]), HB1.out⟩

set_option maxRecDepth 100000 in
set_option maxHeartbeats 1000000 in
theorem law_nodeCheck (N s : Int) (A : Option Addr) (n c : Nat) (l : List Arc) (w : World) (hl : l.length = n) (hn : n ≤ maxLen) (hr : Els w w.heap.size 4 Arc.cells A l) :
    Calls Try.prog 17 #[.agg #[.int .i64 N, .slice A n c], .int .i64 s] w fun e w' => e = .returned (.int .i64 (nodeP N l s)) ∧ Below w.heap.size w w' := by
  have HC : Hid (Calls Try.prog 30 #[.agg #[.int .i64 N, .slice A n c]] (w.alloc (.cells #[.int .i64 N, .slice A n c] 34)) fun e w' => e = .returned (.int .i64 (netCheck N l)) ∧ Below (w.heap.size + 1) (w.alloc (.cells #[.int .i64 N, .slice A n c] 34)) w') := by
    have := ref_NetCheck N A n c l (w.alloc (.cells #[.int .i64 N, .slice A n c] 34)) hl hn ((hr.alloc (Nat.le_refl _) _).more (by rw [size_alloc']; omega))
    rwa [size_alloc'] at this
  have HB := Lib.hid ((Below.refl w.heap.size w).alloc (Nat.le_refl _) (.cells #[.int .i64 N, .slice A n c] 34))
  have HK := Lib.hid (Blk.new w 34 #[.int .i64 N, .slice A n c])
  clear hl hn hr
  go_enter Try.func17, Try.ntmps17
  go_wp2_with fail
  refine HC.out.mono ?_
  clear HC
  rintro e v1 ⟨rfl, hb⟩
  have HB1 := Lib.hid (HB.out.trans (hb.mono (by omega)))
  have c0 := (HK.out.below hb (by omega)).cell 0
  clear hb HB HK
  by_cases h0 : netCheck N l = 0
  · have HE : Hid (nodeP N l s = if s < 0 ∨ N ≤ s then 2 else 0) := if_pos h0
    rw [h0]
    clear h0
    by_cases h1 : s < 0
    · go_wp2_with fail
      go_ret
      exact ⟨ret_i64 (by rw [HE.out, if_pos (by omega)]), HB1.out⟩
    by_cases h2 : N ≤ s
    · go_wp2_with fail
      go_ret
      exact ⟨ret_i64 (by rw [HE.out, if_pos (by omega)]), HB1.out⟩
    · go_wp2_with fail
      go_ret
      exact ⟨ret_i64 (by rw [HE.out, if_neg (by omega)]), HB1.out⟩
  · have HE : Hid (nodeP N l s = netCheck N l) := if_neg h0
    have h1 : (netCheck N l == 0) = false := by simpa using h0
    generalize netCheck N l = x at HE h1 h0
    clear h0
    go_wp2_with fail
    go_ret
    exact ⟨ret_i64 (by rw [HE.out]), HB1.out⟩

theorem node_zero {N s : Int} {l : List Arc} (h : nodeP N l s = 0) : ∃ N' s' : Nat, N = N' ∧ s = s' ∧ s' < N' ∧ N' ≤ 10 ∧ l.length ≤ 30 ∧ ∀ a ∈ l, GoodA N' a := by
  unfold nodeP at h
  split at h
  · rename_i h0
    obtain ⟨N', rfl, h1, h2, h3⟩ := net_good h0
    split at h
    · cases h
    · obtain ⟨s', rfl⟩ := Int.eq_ofNat_of_zero_le (show 0 ≤ s by omega)
      exact ⟨N', s', rfl, rfl, by omega, h1, h2, h3⟩
  · contradiction

def farErr (N : Int) (l : List Arc) (s : Int) : Int := if nodeP N l s = 0 then (if fromOk l N.toNat s.toNat = true then 0 else 5) else nodeP N l s
set_option maxRecDepth 100000 in
set_option maxHeartbeats 1000000 in
theorem short_Far (N s : Int) (A : Option Addr) (n c : Nat) (l : List Arc) (w : World) (hl : l.length = n) (hn : n ≤ maxLen) (hr : Els w w.heap.size 4 Arc.cells A l) :
    Calls Try.prog 34 #[.agg #[.int .i64 N, .slice A n c], .int .i64 s] w fun e w' => ∃ A1 A2 n1 n2, e = .returned (.tuple #[.slice A1 n1 n1, .slice A2 n2 n2, .int .i64 (farErr N l s)]) ∧ Below w.heap.size w w' ∧
      (farErr N l s ≠ 0 → n1 = 0 ∧ n2 = 0) ∧ (farErr N l s = 0 → (n1 : Int) = N ∧ (n2 : Int) = N ∧ Els w' w'.heap.size 1 icell A1 (farL (refO l N.toNat s.toNat N.toNat)) ∧ Els w' w'.heap.size 1 bcell A2 (thereL (refO l N.toNat s.toNat N.toNat))) := by
  have HW : Hid (∀ v : World, Below w.heap.size w v → Els v v.heap.size 1 icell (some ⟨w.heap.size + 1, 0, none⟩) [s] → Calls Try.prog 33 #[.agg #[.int .i64 N, .slice A n c], .slice (some ⟨w.heap.size + 1, 0, none⟩) 1 1] v fun e w' => e = .returned (.int .i64 (nodeP N l s)) ∧ Below v.heap.size v w') := fun v hb hi => by
    have := short_wrong N A n c l [s] (some ⟨w.heap.size + 1, 0, none⟩) 1 1 v hl hn rfl (by omega) ((hr.below hb).more hb.size) hi
    rwa [wrong_one] at this
  have HF : Hid (∀ (N' s' : Nat) (v : World), N = N' → s = s' → s' < N' → N' ≤ 10 → l.length ≤ 30 → (∀ a ∈ l, GoodA N' a) → Below w.heap.size w v → Calls Try.prog 59 #[.agg #[.int .i64 N', .slice A n c], .int .i64 s'] v fun e w' => ∃ A1 A2 O, e = .returned (.tuple #[.agg #[.slice A1 N' N', .slice A2 N' N'], .bool (fromOk l N' s')]) ∧ Below v.heap.size v w' ∧
      Els w' w'.heap.size 1 icell A1 (farL O) ∧ Els w' w'.heap.size 1 bcell A2 (thereL O) ∧ O.length = N' ∧ (fromOk l N' s' = true → ∃ r, r ≤ N' ∧ O = progO l N' s' r ∧ chgP O l = false)) := fun N' s' v _ _ h3 h4 h5 h6 hb =>
    short_from N' s' A n c l v hl h6 h4 (by omega) h3 ((hr.below hb).more hb.size)
  have HB := Lib.hid ((Below.refl w.heap.size w).alloc (Nat.le_refl _) (.cells #[.int .i64 N, .slice A n c] 34))
  have HK := Lib.hid (Blk.new w 34 #[.int .i64 N, .slice A n c])
  clear hl hn hr
  go_enter Try.func34, Try.ntmps34
  go_wp2_with fail
  have HB2 := Lib.hid (HB.out.alloc (show w.heap.size ≤ (w.alloc (.cells #[.int .i64 N, .slice A n c] 34)).heap.size by rw [size_alloc']; omega) (.cells #[.int .i64 s] 3))
  have hk2 := Blk.new (w.alloc (.cells #[.int .i64 N, .slice A n c] 34)) 3 #[.int .i64 s]
  rw [size_alloc'] at hk2
  have HE2 := Lib.hid (els_of_blk hk2 1 icell (fun _ => rfl) [s] rfl)
  have HK2 := Lib.hid (HK.out.alloc (.cells #[.int .i64 s] 3))
  clear hk2 HK HB
  refine (HW.out _ HB2.out HE2.out).mono ?_
  clear HW HE2
  rintro e v1 ⟨rfl, hb⟩
  have HB3 := Lib.hid (HB2.out.trans (hb.mono HB2.out.size))
  have HK3 := Lib.hid (HK2.out.below hb HK2.out.lt)
  have c0 := HK3.out.cell 0
  have c1 := HK3.out.cell 1
  clear hb HB2 HK2
  by_cases h0 : nodeP N l s = 0
  · have HE : Hid (farErr N l s = if fromOk l N.toNat s.toNat = true then 0 else 5) := Lib.hid (if_pos h0)
    obtain ⟨N', s', rfl, rfl, h1, h2, h3, h4⟩ := node_zero h0
    rw [h0]
    clear h0
    have HF1 := Lib.hid (HF.out N' s' v1 rfl rfl h1 h2 h3 h4 HB3.out)
    have HG := Lib.hid h4
    clear HF h3 h4
    go_wp2_with fail
    refine HF1.out.mono ?_
    clear HF1
    rintro e v2 ⟨A1, A2, O, rfl, hb, e1, e2, hO, hok⟩
    have HB4 := Lib.hid (HB3.out.trans (hb.mono HB3.out.size))
    have HE1 := Lib.hid e1
    have HE2 := Lib.hid e2
    have HOK := Lib.hid hok
    clear hb e1 e2 hok c0 c1
    obtain ⟨ok, hk⟩ : ∃ ok, ok = fromOk l N' s' := ⟨_, rfl⟩
    have hE2 : farErr (N' : Int) l (s' : Int) = if fromOk l N' s' = true then 0 else 5 := HE.out
    rw [← hk] at hE2 HOK ⊢
    clear HE
    have HE := Lib.hid hE2
    clear hk hE2
    cases ok with
    | false =>
      go_wp2_with fail
      refine bodyPost_ret (v := .tuple #[.slice none 0 0, .slice none 0 0, .int .i64 5]) (by simp [results, Try.results34, go_sem]) rfl ?_
      exact ⟨none, none, 0, 0, by rw [HE.out]; rfl, HB4.out.alloc HB4.out.size _, fun _ => ⟨rfl, rfl⟩, fun h => by rw [HE.out] at h; cases h⟩
    | true =>
      have hk := Blk.new v2 110 #[.slice A1 N' N', .slice A2 N' N']
      have c0 := hk.cell 0
      have c1 := hk.cell 1
      clear hk
      go_wp2_with fail
      go_quiet (fail)
      go_wp2_with fail
      refine bodyPost_ret (v := .tuple #[.slice A1 N' N', .slice A2 N' N', .int .i64 0]) (by simp [results, Try.results34, go_sem]) rfl ?_
      obtain ⟨r, _, hr2, hr3⟩ := HOK.out (by trivial)
      rw [hr2] at hr3
      have hrf := (prog_ref HG.out h1 hr3).1
      rw [← hr2] at hrf
      have hb5 := (Below.refl v2.heap.size v2).alloc (Nat.le_refl _) (.cells #[.slice A1 N' N', .slice A2 N' N'] 110)
      refine ⟨A1, A2, N', N', by rw [HE.out]; rfl, below_drewN (HB4.out.alloc HB4.out.size _) _, fun h => by rw [HE.out] at h; exact (h rfl).elim, fun _ => ⟨rfl, rfl, ?_, ?_⟩⟩
      · have hgoal := (HE1.out.below hb5).more hb5.size
        rw [hrf] at hgoal
        exact hgoal
      · have hgoal := (HE2.out.below hb5).more hb5.size
        rw [hrf] at hgoal
        exact hgoal
  · have HE : Hid (farErr N l s = nodeP N l s) := Lib.hid (if_neg h0)
    have h1 : (nodeP N l s != 0) = true := by simpa using h0
    have h2 : farErr N l s ≠ 0 := by rw [HE.out]; exact h0
    have HZ := Lib.hid h2
    clear h2
    generalize nodeP N l s = x at HE h1 h0
    clear h0
    go_wp2_with fail
    refine bodyPost_ret (v := .tuple #[.slice none 0 0, .slice none 0 0, .int .i64 x]) (by simp [results, Try.results34, go_sem]) rfl ?_
    exact ⟨none, none, 0, 0, by rw [HE.out], HB3.out, fun _ => ⟨rfl, rfl⟩, fun h => (HZ.out h).elim⟩
end Go.Proofs.Ytfaifadfilndmaa
