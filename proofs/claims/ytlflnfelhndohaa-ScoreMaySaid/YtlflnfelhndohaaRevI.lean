/- A list of numbers turned round in place; sorted falling. Conditions: it lies in a row of the caller's own. -/
import Derived.Test.YtlflnfelhndohaaSortK
import Derived.Test.YtlflnfelhndohaaRegD
import Derived.WalkSpells
namespace Go.Proofs.Ytlflnfelhndohaa
open Go.RowKit

def rvL (k d : Nat) (l : List Int) : List Int := (List.range k).map fun i => if i < d ∨ k ≤ i + d then l.getD (k - 1 - i) 0 else l.getD i 0
theorem rvL_len (k d : Nat) (l : List Int) : (rvL k d l).length = k := by unfold rvL; simp
theorem rvL_at {k d i : Nat} (l : List Int) (hi : i < k) : (rvL k d l)[i]'(by rw [rvL_len]; exact hi) = if i < d ∨ k ≤ i + d then l.getD (k - 1 - i) 0 else l.getD i 0 := by unfold rvL; simp
theorem rvL_zero {l : List Int} {k : Nat} (hl : l.length = k) : rvL k 0 l = l := by
  refine List.ext_getElem (by rw [rvL_len, hl]) fun i h1 h2 => ?_
  rw [rvL_at l (by omega), if_neg (by omega), getD_at l i h2]
theorem rvL_end {l : List Int} {k d : Nat} (hl : l.length = k) (hd : k ≤ d + d + 1) : rvL k d l = l.reverse := by
  refine List.ext_getElem (by rw [rvL_len, List.length_reverse, hl]) fun i h1 h2 => ?_
  rw [rvL_len] at h1
  rw [rvL_at l h1, List.getElem_reverse]
  by_cases h : i < d ∨ k ≤ i + d
  · rw [if_pos h, getD_at l _ (by omega)]
    congr 1
    omega
  · rw [if_neg h, getD_at l _ (by omega)]
    congr 1
    omega
theorem rvL_swap {l : List Int} {k d e : Nat} (he : e = k - 1 - d) (hlt : d < e) : ((rvL k d l).set d (l.getD e 0)).set e (l.getD d 0) = rvL k (d + 1) l := by
  refine List.ext_getElem (by rw [List.length_set, List.length_set, rvL_len, rvL_len]) fun i h1 h2 => ?_
  rw [rvL_len] at h2
  rw [List.getElem_set, List.getElem_set, rvL_at l h2, rvL_at l h2]
  by_cases h1 : e = i
  · rw [if_pos h1, if_pos (by omega)]
    congr 1; omega
  · rw [if_neg h1]
    by_cases h3 : d = i
    · rw [if_pos h3, if_pos (by omega)]
      congr 1; omega
    · rw [if_neg h3]
      by_cases h4 : i < d ∨ k ≤ i + d
      · rw [if_pos h4, if_pos (by omega)]
      · rw [if_neg h4, if_neg (by omega)]
set_option maxRecDepth 100000 in
set_option maxHeartbeats 2000000 in
theorem Reverse_ints (l : List Int) (A : Option Addr) (k ck cap B : Nat) (w : World) (hl : l.length = k) (hk : k ≤ 100000) (ho : Own w B 3 1 icell A cap l) :
    Calls Try.prog 44 #[.slice A k ck] w fun e w' => (∃ v, e = .returned v) ∧ Below B w w' ∧ Own w' B 3 1 icell A cap l.reverse := by
  have HL := Lib.hid hl
  have HO := Lib.hid ho
  clear ho hl
  have hwk : IntKind.i64.wrap ((k : Int) - 1) = (k : Int) - 1 := IntWalk.i64_in _ (by omega)
  go_enter Try.func44, Try.ntmps44
  go_wp2_with fail
  go_loopw [2, 3] (fun s2 s3 wr => ∃ d : Nat, d ≤ k ∧ s2 = .int .i64 d ∧ s3 = .int .i64 ((k : Int) - 1 - d) ∧ Below B w wr ∧ Own wr B 3 1 icell A cap (rvL k d l)) (fun s2 _ _ => k - (intOf s2).toNat)
  case atStart => exact ⟨0, Nat.zero_le _, rfl, by simp, Below.refl _ _, by rw [rvL_zero HL.out]; exact HO.out⟩
  case round =>
    clear HO
    rename World => wr
    obtain ⟨d, hd, rfl, rfl, hh, hs⟩ := hrel
    by_cases hlt : d < k - 1 - d
    · obtain ⟨e, he⟩ : ∃ e, e = k - 1 - d := ⟨_, rfl⟩
      have hek : (k : Int) - 1 - d = (e : Int) := by omega
      rw [hek]
      have hde : (d : Int) < e := by omega
      have hdk2 : d < k := by omega
      have hek2 : e < k := by omega
      obtain ⟨h, rfl, hB, _, d0, fd⟩ := hs.cell1 (f := fun x : Int => .int .i64 x) (k := d) (by rw [rvL_len]; exact hdk2)
      obtain ⟨h', hh', _, _, e0, fe⟩ := hs.cell1 (f := fun x : Int => .int .i64 x) (k := e) (by rw [rvL_len]; exact hek2)
      obtain rfl : h = h' := by simpa using hh'
      rw [rvL_at l hdk2, if_neg (by omega)] at d0
      rw [rvL_at l hek2, if_neg (by omega)] at e0
      obtain ⟨xd, hxd⟩ : ∃ x, x = l.getD d 0 := ⟨_, rfl⟩
      obtain ⟨xe, hxe⟩ : ∃ x, x = l.getD e 0 := ⟨_, rfl⟩
      have hput := (hs.put1 (k := d) (x := xe) (by rw [rvL_len]; exact hdk2)).put1 (k := e) (x := xd) (by rw [List.length_set, rvL_len]; exact hek2)
      rw [hxd, hxe, rvL_swap he (by omega), ← hxd, ← hxe] at hput
      rw [← hxd] at d0
      rw [← hxe] at e0
      have hh2 := (hh.setCell (p := ⟨h, d, none⟩) hB (.int .i64 xe)).setCell (p := ⟨h, e, none⟩) hB (.int .i64 xd)
      have HP := Lib.hid hput
      have HE := Lib.hid he
      have HH2 := Lib.hid hh2
      have hwd : IntKind.i64.wrap ((d : Int) + 1) = (d : Int) + 1 := IntWalk.i64_in _ (by omega)
      have hwe : IntKind.i64.wrap ((e : Int) - 1) = (e : Int) - 1 := IntWalk.i64_in _ (by omega)
      have hdi : (d : Int) < (k : Int) := by omega
      have hei : (e : Int) < (k : Int) := by omega
      have hdn : d ≠ e := by omega
      clear hput hs hxd hxe he hek hh hh2 hh' hB
      go_wp2_with fail
      refine region_plain 99 16 (fun _ => True) (by kernel_rfl) rfl ?_
      refine anyC_reads (by kernel_rfl) [0, 1, 2, 3, 4, 5, 6, 8, 9, 10] ?opl ?ohl 6 _ _ _ (by kernel_rfl) ?okk
      case ohl => (simp only [List.filterMap_cons, List.filterMap_nil, List.getElem?_toArray, List.getElem?_cons_zero, List.getElem?_cons_succ]; try rfl)
      repeat (
        refine readC_step (v := ?_) rfl (fun w' hw' => ?_) ?_
        rotate_left
        focus (go_simp; try with_reducible rfl)
        go_simp)
      refine readC_nil ?_
      refine anyD_two (i := 7) (j := 11) (by kernel_rfl) rfl rfl rfl rfl (.inr trivial) ?_ ?_
      · go_simp
        refine anyC_one (i := 11) (by kernel_rfl) rfl rfl (.inr trivial) ?_
        go_simp
        refine anyC_one (i := 12) (by kernel_rfl) rfl rfl (.inr trivial) ?_
        go_simp
        refine anyC_one (i := 13) (by kernel_rfl) rfl rfl (.inr trivial) ?_
        go_simp
        refine anyC_one (i := 14) (by kernel_rfl) rfl rfl (.inr trivial) ?_
        go_simp
        refine anyC_one (i := 15) (by kernel_rfl) rfl rfl (.inr trivial) ?_
        go_simp
        refine anyC_end (by kernel_rfl) (.inr trivial) ?_
        have hwd : IntKind.i64.wrap ((d : Int) + 1) = (d : Int) + 1 := IntWalk.i64_in _ (by omega)
        have hwe : IntKind.i64.wrap ((e : Int) - 1) = (e : Int) - 1 := IntWalk.i64_in _ (by omega)
        go_wp2_with fail
        go_roundw
        case rel => exact ⟨d + 1, by omega, by simp, by (have := HE.out; simp; omega), HH2.out.drew, HP.out.drew⟩
        case measure => first | (simp [intOf]; done) | (simp [intOf]; omega)
      · go_simp
        refine anyC_one (i := 7) (by kernel_rfl) rfl rfl (.inr trivial) ?_
        go_simp
        refine anyC_one (i := 12) (by kernel_rfl) rfl rfl (.inr trivial) ?_
        go_simp
        refine anyC_one (i := 13) (by kernel_rfl) rfl rfl (.inr trivial) ?_
        go_simp
        refine anyC_one (i := 14) (by kernel_rfl) rfl rfl (.inr trivial) ?_
        go_simp
        refine anyC_one (i := 15) (by kernel_rfl) rfl rfl (.inr trivial) ?_
        go_simp
        refine anyC_end (by kernel_rfl) (.inr trivial) ?_
        have hwd : IntKind.i64.wrap ((d : Int) + 1) = (d : Int) + 1 := IntWalk.i64_in _ (by omega)
        have hwe : IntKind.i64.wrap ((e : Int) - 1) = (e : Int) - 1 := IntWalk.i64_in _ (by omega)
        go_wp2_with fail
        go_roundw
        case rel => exact ⟨d + 1, by omega, by simp, by (have := HE.out; simp; omega), HH2.out.drew, HP.out.drew⟩
        case measure => first | (simp [intOf]; done) | (simp [intOf]; omega)
    · have hneg : ¬ (d : Int) < (k : Int) - 1 - d := by omega
      rw [rvL_end HL.out (by omega)] at hs
      go_wp2_with fail
      go_end0
      exact ⟨⟨_, rfl⟩, hh, hs⟩
end Go.Proofs.Ytlflnfelhndohaa
