/- slices.SortFunc of at most twelve nodes: the call. Conditions: the nodes lie in a row of the caller's own. -/
import Derived.Test.YtlflnfelhndohaaHavC
namespace Go.Proofs.Ytlflnfelhndohaa
open Go.RowKit Go.Shelf

set_option maxRecDepth 100000 in
set_option maxHeartbeats 1000000 in
theorem len64_small (n : Nat) (hn : n ≤ 12) (w : World) : Calls Try.prog 88 #[.int .u64 n] w fun e w' => (∃ v : Int, e = .returned (.int .i64 v)) ∧ w' = w := by
  have h : n = 0 ∨ n = 1 ∨ n = 2 ∨ n = 3 ∨ n = 4 ∨ n = 5 ∨ n = 6 ∨ n = 7 ∨ n = 8 ∨ n = 9 ∨ n = 10 ∨ n = 11 ∨ n = 12 := by omega
  clear hn
  rcases h with rfl | rfl | rfl | rfl | rfl | rfl | rfl | rfl | rfl | rfl | rfl | rfl | rfl
  all_goals
    go_enter Try.func88, Try.ntmps88
    go_wp2_with fail
    go_ret
    exact ⟨⟨_, rfl⟩, rfl⟩
set_option maxRecDepth 100000 in
theorem len_small (n : Nat) (hn : n ≤ 12) (w : World) : Calls Try.prog 64 #[.int .u64 n] w fun e w' => (∃ v : Int, e = .returned (.int .i64 v)) ∧ w' = w := by
  have H := Lib.hid (len64_small n hn w)
  have hw : IntKind.u64.wrap (n : Int) = (n : Int) := by
    have h : ∀ i : Fin 13, IntKind.u64.wrap ((i.val : Nat) : Int) = (i.val : Int) := by decide +kernel
    exact h ⟨n, by omega⟩
  go_enter Try.func64, Try.ntmps64
  go_wp2_with fail
  refine H.out.mono ?_
  rintro e w' ⟨⟨v, rfl⟩, rfl⟩
  go_wp2_with fail
  go_ret
  exact ⟨⟨_, rfl⟩, rfl⟩
def ordNs (l : List Nd) : List Int := fallsTo (keyN l) l.length
set_option maxRecDepth 100000 in
theorem sort_nodes (l : List Nd) (A : Option Addr) (n cp B : Nat) (w : World) (hn : l.length = n) (h8 : n ≤ 12) (hok : ∀ k, k < n → 0 ≤ (nAt l k).i ∧ (nAt l k).i < 16) (ho : Own w B 96 2 Nd.cells A cp l) (hB : B ≤ w.heap.size) :
    Calls Try.prog 45 #[.slice A n cp, .func (.func 46) #[] #[]] w fun e w' => (∃ v, e = .returned v) ∧ Below B w w' ∧ Own w' B 96 2 Nd.cells A cp ((ordNs l).map (pn l)) := by
  have hl0 : l = (restL n 0).map (pn l) := by
    unfold restL
    rw [Nat.sub_zero, List.map_map]
    refine List.ext_getElem (by simp [hn]) fun i h1 h2 => ?_
    rw [List.getElem_map, List.getElem_range]
    show l[i] = nAt l ((0 + i : Nat) : Int).toNat
    rw [Nat.zero_add, Int.toNat_natCast]
    unfold nAt
    rw [getD_at l i h1]
  have HI := Lib.hid (insertion_nodes l A n cp B w hn (by omega) hok (by rw [← hl0]; exact ho) hB)
  have HN := Lib.hid hn
  have hw : IntKind.u64.wrap (n : Int) = (n : Int) := by
    have h : ∀ i : Fin 13, IntKind.u64.wrap ((i.val : Nat) : Int) = (i.val : Int) := by decide +kernel
    exact h ⟨n, by omega⟩
  have HLEN := Lib.hid (len_small n h8 w)
  have hle : (n : Int) ≤ 12 := by omega
  have hw0 : IntKind.i64.wrap ((n : Int) - 0) = (n : Int) := by rw [Int.sub_zero]; exact wrap_sm (by omega) (by omega)
  clear ho hok hl0 hn
  have HS : Hid (∀ v : Int, Calls Try.prog 65 #[.slice A n cp, .int .i64 0, .int .i64 n, .int .i64 v, .func (.func 46) #[] #[]] w fun e w' => (∃ v, e = .returned v) ∧ Below B w w' ∧ ∃ u, SortSt (keyN l) n n u ∧ Own w' B 96 2 Nd.cells A cp (u.map (pn l))) := Lib.hid (fun v => by
    go_enter Try.func65, Try.ntmps65
    go_wp2_with fail
    go_loopw [1, 2] (fun s1 s2 wr => s1 = .int .i64 0 ∧ s2 = .int .i64 n ∧ w = wr) (fun _ _ _ => 0)
    case atStart => exact ⟨rfl, rfl, rfl⟩
    case round =>
      rename World => wr
      obtain ⟨rfl, rfl, rfl⟩ := hrel
      go_wp2_with fail
      refine HI.out.mono ?_
      rintro e w' ⟨⟨v, rfl⟩, hb, hu⟩
      have HB := Lib.hid hb
      have HU := Lib.hid hu
      clear hb hu
      go_wp2_with fail
      refine bodyPost_ret (results_none rfl _ _ _) rfl ?_
      exact ⟨⟨_, rfl⟩, HB.out, HU.out⟩)
  go_enter Try.func45, Try.ntmps45
  go_wp2_with fail
  refine HLEN.out.mono ?_
  rintro e w1 ⟨⟨v, rfl⟩, rfl⟩
  go_wp2_with fail
  refine (HS.out v).mono ?_
  rintro e w' ⟨⟨v, rfl⟩, hb, u, hst, hu⟩
  obtain ⟨rfl, _⟩ := sort_end (by unfold keyN; rw [List.length_map]; exact HN.out) hst
  have e : fallsTo (keyN l) n = ordNs l := by unfold ordNs; rw [HN.out]
  rw [e] at hu
  have HB := Lib.hid hb
  have HU := Lib.hid hu
  clear hb hu hst e
  go_wp2_with fail
  go_end0
  exact ⟨⟨_, rfl⟩, HB.out, HU.out⟩
end Go.Proofs.Ytlflnfelhndohaa
