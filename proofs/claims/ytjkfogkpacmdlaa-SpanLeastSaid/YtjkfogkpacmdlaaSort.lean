/- slices.SortStableFunc of at most eight places, by falling values. Conditions: the closure compares the values; the places lie in a row of the caller's own. -/
import Derived.Test.YtjkfogkpacmdlaaSortP
import Derived.Laws.EntriesVeiled
namespace Go.Proofs.Ytjkfogkpacmdlaa
open Go.RowKit

def cmpI (x y : Int) : Int := if x < y then -1 else if y < x then 1 else 0
theorem cmpI_neg (x y : Int) : cmpI x y < 0 ↔ x < y := by unfold cmpI; split <;> (try split) <;> omega
set_option maxRecDepth 100000 in
theorem cmp_Compare (x y : Int) (w : World) :
    Calls Try.prog 39 #[.int .i64 x, .int .i64 y] w fun e w' => e = .returned (.int .i64 (cmpI x y)) ∧ w = w' := by
  have hn : ∀ z : Int, Calls Try.prog 55 #[.int .i64 z] w fun e w' => e = .returned (.bool false) ∧ w = w' := fun z => by
    have hz : (z != z) = false := by simp
    go_enter Try.func55, Try.ntmps55
    go_wp2_with fail
    go_ret
    exact ⟨rfl, rfl⟩
  have HN := Lib.hid hn
  have HC : Hid (cmpI x y = if x < y then -1 else if y < x then 1 else 0) := Lib.hid rfl
  clear hn
  by_cases h1 : x < y
  · go_enter Try.func39, Try.ntmps39
    go_wp2_with fail
    refine (HN.out x).mono ?_
    rintro e w' ⟨rfl, rfl⟩
    go_wp2_with fail
    refine (HN.out y).mono ?_
    rintro e w' ⟨rfl, rfl⟩
    go_wp2_with fail
    go_ret
    exact ⟨ret_i64 (by rw [HC.out, if_pos h1]), rfl⟩
  · by_cases h2 : y < x
    · go_enter Try.func39, Try.ntmps39
      go_wp2_with fail
      refine (HN.out x).mono ?_
      rintro e w' ⟨rfl, rfl⟩
      go_wp2_with fail
      refine (HN.out y).mono ?_
      rintro e w' ⟨rfl, rfl⟩
      go_wp2_with fail
      go_ret
      exact ⟨ret_i64 (by rw [HC.out]; split <;> (try split) <;> omega), rfl⟩
    · go_enter Try.func39, Try.ntmps39
      go_wp2_with fail
      refine (HN.out x).mono ?_
      rintro e w' ⟨rfl, rfl⟩
      go_wp2_with fail
      refine (HN.out y).mono ?_
      rintro e w' ⟨rfl, rfl⟩
      go_wp2_with fail
      go_ret
      exact ⟨ret_i64 (by rw [HC.out]; split <;> (try split) <;> omega), rfl⟩

/-- A closure that compares the values of two places. -/
def Cmps (F : FuncId) (cap : Array Value) (sz : List Int) (n B : Nat) (w : World) : Prop :=
  ∀ (a b : Int) (wx : World), 0 ≤ a → a < n → 0 ≤ b → b < n → Below B w wx → Calls Try.prog F (#[.int .i64 a, .int .i64 b] ++ cap) wx fun e w' => e = .returned (.int .i64 (cmpI (valZ sz b) (valZ sz a))) ∧ ∃ m, w' = wx.drewN m

set_option maxRecDepth 100000 in
set_option maxHeartbeats 1000000 in
theorem insertion (F : FuncId) (hF : Ent Try.prog F) (cap : Array Value) (sz : List Int) (A : Option Addr) (n cp B : Nat) (w : World) (hn : sz.length = n) (h8 : n ≤ 16) (hB : B ≤ w.heap.size) (hc : Cmps F cap sz n B w) (ho : Own w B 3 1 icell A cp (restL n 0)) :
    Calls Try.prog 65 #[.slice A n cp, .int .i64 0, .int .i64 n, .func (.func F) #[] cap] w fun e w' => (∃ v, e = .returned v) ∧ Below B w w' ∧ ∃ u, SortSt sz n n u ∧ Own w' B 3 1 icell A cp u := by
  unfold Ent at hF
  unfold Cmps at hc
  have HC := Lib.hid hc
  have HO := Lib.hid ho
  have hst : SortSt sz n (min 1 n) (restL n 0) := by
    have h0 := sort_start sz n
    by_cases h : n = 0
    · subst h; exact h0
    · rw [Nat.min_eq_left (by omega)]
      exact in_done (sort_enter h0 (by omega)) (.inl rfl)
  have HST := Lib.hid hst
  clear hc ho hst
  go_enter Try.func65, Try.ntmps65
  go_wp2_with fail
  go_loopw [8] (fun s wr => ∃ (k : Nat) (u : List Int), 1 ≤ k ∧ k ≤ n + 1 ∧ s = .int .i64 k ∧ Below B w wr ∧ SortSt sz n (min k n) u ∧ Own wr B 3 1 icell A cp u) (fun s _ => n - (intOf s).toNat)
  case atStart => exact ⟨1, _, by omega, by omega, rfl, Below.refl _ _, HST.out, HO.out⟩
  case round =>
    clear HST HO
    rename World => wr
    obtain ⟨k, u, hk1, hkn, rfl, hb, hst, hown⟩ := hrel
    have HB := Lib.hid hb
    have HST := Lib.hid hst
    have HO := Lib.hid hown
    by_cases hlt : k < n
    · have hin : InSt sz n k k u := sort_enter (by rw [Nat.min_eq_left (by omega)] at hst; exact hst) hlt
      have HIN := Lib.hid hin
      clear hb hst hown hin HST
      go_wp2_with fail
      go_loopw [9] (fun s w2 => ∃ (j : Nat) (u : List Int), j ≤ k ∧ s = .int .i64 j ∧ Below B w w2 ∧ InSt sz n k j u ∧ Own w2 B 3 1 icell A cp u) (fun s _ => (intOf s).toNat)
      case atStart => exact ⟨k, u, by omega, rfl, HB.out, HIN.out, HO.out⟩
      case round =>
        clear HB HIN HO
        rename World => w2
        obtain ⟨j, u, hj, rfl, hb, hin, hown⟩ := hrel
        have HB := Lib.hid hb
        have HIN := Lib.hid hin
        have HO := Lib.hid hown
        have hul := in_length hin hlt
        by_cases hj0 : j = 0
        · subst hj0
          have HD : Hid (SortSt sz n (min (k + 1) n) u) := Lib.hid (by rw [Nat.min_eq_left (by omega)]; exact in_done hin (.inl rfl))
          clear hb hin hown
          go_wp2_with fail
          go_quiet (fail)
          go_wp2_with fail
          go_roundw
          case rel => exact ⟨k + 1, u, by omega, by omega, by go_num, below_drewN HB.out _, HD.out, HO.out.drewN _⟩
          case measure => simp [intOf]; omega
        · obtain ⟨q, rfl⟩ : ∃ q, j = q + 1 := ⟨j - 1, by omega⟩
          obtain ⟨P, x, S, hu, hP, hx, hx0, hxk, _⟩ := in_last hin
          have hhere := (in_here hin).1
          have hl1 : q + 1 < u.length := by omega
          have hl2 : q < u.length := by omega
          obtain ⟨g, rfl, hg1, hg2, ca, fa⟩ := hown.cell1 (f := fun x => .int .i64 x) (k := q + 1) hl1
          obtain ⟨g', hgg, _, _, cb, fb⟩ := hown.cell1 (f := fun x => .int .i64 x) (k := q) hl2
          obtain rfl : g = g' := by simpa using hgg
          rw [← getD_at u _ hl1 0, hhere] at ca
          rw [← getD_at u _ hl2 0, hx] at cb
          have HCL : Hid (∀ N, Calls Try.prog F (#[.int .i64 k, .int .i64 x] ++ cap) (w2.drewN N) fun e w' => e = .returned (.int .i64 (cmpI (valZ sz x) (valZ sz k))) ∧ ∃ m, w' = (w2.drewN N).drewN m) :=
            Lib.hid (fun N => HC.out k x (w2.drewN N) (by omega) (by omega) hx0 (by omega) (below_drewN hb N))
          have hneg := cmpI_neg (valZ sz x) (valZ sz k)
          have hdone : ¬ valZ sz x < valZ sz k → SortSt sz n (min (k + 1) n) u := fun h => by
            rw [Nat.min_eq_left (by omega)]
            exact in_done hin (.inr ⟨q, rfl, by rw [hx]; exact h⟩)
          have hswap : valZ sz x < valZ sz k → InSt sz n k q ((u.set (q + 1) x).set q k) := fun h => by
            have := in_swap hin (by rw [hx]; exact h)
            rwa [hx] at this
          have HDN := Lib.hid hdone
          have HSW := Lib.hid hswap
          have HNG := Lib.hid hneg
          obtain ⟨z, hz⟩ : ∃ z, z = cmpI (valZ sz x) (valZ sz k) := ⟨_, rfl⟩
          rw [← hz] at HCL HNG
          have hq1 : ((q + 1 : Nat) : Int) - 1 = (q : Int) := by omega
          clear hb hin hown hu hP hx hhere hgg hz hneg hdone hswap
          by_cases hc : z < 0
          · have HN := Lib.hid (HSW.out (HNG.out.1 hc))
            go_wp2_with fail
            go_quiet (exact quietN (HCL.out _))
            go_wp2_with fail
            go_region
            all_goals
              go_wp2_with fail
              go_roundw
              case rel => exact ⟨q, _, by omega, by go_num, ((below_drewN HB.out _).setCell (show B ≤ g by omega) _).setCell (show B ≤ g by omega) _, HN.out, ((HO.out.drewN _).put1 (f := fun x => .int .i64 x) (x := x) hl1).put1 (f := fun x => .int .i64 x) (x := (k : Int)) (by rw [List.length_set]; omega)⟩
              case measure => simp [intOf] <;> omega
          · have HN := Lib.hid (HDN.out (fun h => hc (HNG.out.2 h)))
            go_wp2_with fail
            go_quiet (exact quietN (HCL.out _))
            go_wp2_with fail
            go_roundw
            case rel => exact ⟨k + 1, u, by omega, by omega, by go_num, below_drewN HB.out _, HN.out, HO.out.drewN _⟩
            case measure => simp [intOf]; omega
    · have hmin : min k n = n := by omega
      rw [hmin] at hst
      have HS2 := Lib.hid hst
      clear hb hst hown
      go_wp2_with fail
      go_end0
      exact ⟨⟨_, rfl⟩, HB.out, u, HS2.out, HO.out⟩

set_option maxRecDepth 100000 in
theorem sort_stable (F : FuncId) (hF : Ent Try.prog F) (cap : Array Value) (sz : List Int) (A : Option Addr) (n cp B : Nat) (w : World) (hn : sz.length = n) (h8 : n ≤ 16) (hB : B ≤ w.heap.size) (hc : Cmps F cap sz n B w) (ho : Own w B 3 1 icell A cp (restL n 0)) :
    Calls Try.prog 37 #[.slice A n cp, .func (.func F) #[] cap] w fun e w' => (∃ v, e = .returned v) ∧ Below B w w' ∧ ∃ u, SortSt sz n n u ∧ Own w' B 3 1 icell A cp u := by
  have HI := Lib.hid (insertion F hF cap sz A n cp B w hn h8 hB hc ho)
  clear hc ho
  have HS : Hid (Calls Try.prog 54 #[.slice A n cp, .int .i64 n, .func (.func F) #[] cap] w fun e w' => (∃ v, e = .returned v) ∧ Below B w w' ∧ ∃ u, SortSt sz n n u ∧ Own w' B 3 1 icell A cp u) := Lib.hid (by
    go_enter Try.func54, Try.ntmps54
    go_wp2_with fail
    go_loop [7, 8] (fun a s => a = .int .i64 0 ∧ s = .int .i64 20) (fun _ _ => 0)
    case atStart => exact ⟨rfl, rfl⟩
    case round =>
      obtain ⟨rfl, rfl⟩ := hrel
      go_wp2_with fail
      refine HI.out.mono ?_
      rintro e w' ⟨⟨v, rfl⟩, hb, hu⟩
      have HB := Lib.hid hb
      have HU := Lib.hid hu
      clear hb hu
      go_wp2_with fail
      go_loop [6] (fun s => s = .int .i64 20) (fun _ => 0)
      case atStart => rfl
      case round =>
        subst hrel
        go_wp2_with fail
        go_end0
        exact ⟨⟨_, rfl⟩, HB.out, HU.out⟩)
  go_enter Try.func37, Try.ntmps37
  go_wp2_with fail
  refine HS.out.mono ?_
  rintro e w' ⟨⟨v, rfl⟩, hb, hu⟩
  have HB := Lib.hid hb
  have HU := Lib.hid hu
  clear hb hu
  go_wp2_with fail
  go_end0
  exact ⟨⟨_, rfl⟩, HB.out, HU.out⟩
end Go.Proofs.Ytjkfogkpacmdlaa
