/- The reference's places by falling values; what the closures of the sorts compare. Conditions: the values read as a list. -/
import Derived.Test.YtokmialpclcodaaSort
import Derived.Test.YtokmialpclcodaaPackP
namespace Go.Proofs.Ytokmialpclcodaa
open Go.RowKit

def lenF : Value → Nat
  | .slice _ n _ => n
  | _ => 0
theorem rest_places (n : Nat) : restL n 0 = placesL n := by
  unfold restL placesL
  rw [Nat.sub_zero]
  refine List.map_congr_left fun q _ => ?_
  rw [Nat.zero_add]

set_option maxRecDepth 100000 in
set_option maxHeartbeats 1000000 in
theorem ref_Falls (sz : List Int) (A : Option Addr) (n c : Nat) (w : World) (hn : sz.length = n) (h8 : n ≤ 8) (hr : Els w w.heap.size 1 icell A sz) :
    Calls Try.prog 40 #[.slice A n c] w fun e w' => ∃ A' cap, e = .returned (.slice A' n cap) ∧ Below w.heap.size w w' ∧ Own w' w.heap.size 3 1 icell A' cap (fallsTo sz n) := by
  have HN := Lib.hid hn
  have HR := Lib.hid hr
  clear hn hr
  go_enter Try.func40, Try.ntmps40
  go_wp2_with fail
  go_loopw [3] (fun s wr => ∃ (k : Nat) (A1 : Option Addr) (cap : Nat), k ≤ n ∧ s = .slice A1 k cap ∧ Below w.heap.size w wr ∧ Own wr w.heap.size 3 1 icell A1 cap (fallsTo sz k)) (fun s _ => n - lenF s)
  case atStart => exact ⟨0, none, 0, by omega, rfl, Below.refl _ _, Own.nil _ _ _ (fun _ => rfl)⟩
  case round =>
    rename World => wr
    obtain ⟨k, A1, cap, hk, rfl, hb, hown⟩ := hrel
    have HB := Lib.hid hb
    have HO := Lib.hid hown
    have hsz := hb.size
    clear hb hown
    by_cases hlt : k < n
    · have HST : Hid (fallsTo sz (k + 1) = fallsTo sz k ++ [pickTo sz (fallsTo sz k) n]) := Lib.hid (by rw [fallsTo, HN.out])
      have HLL := Lib.hid (fallsTo_length sz k)
      obtain ⟨L, hL⟩ : ∃ L, L = fallsTo sz k := ⟨_, rfl⟩
      rw [← hL] at HO HST HLL
      have HSL := Lib.hid hL
      clear hL
      go_wp2_with fail
      go_loopw [5, 4] (fun s t w2 => ∃ i : Nat, i ≤ n ∧ s = .int .i64 i ∧ t = .int .i64 (pickTo sz L i) ∧ Below w.heap.size w w2 ∧ Own w2 w.heap.size 3 1 icell A1 cap L) (fun s _ _ => n - (intOf s).toNat)
      case atStart => exact ⟨0, by omega, rfl, rfl, HB.out, HO.out⟩
      case round =>
        clear HB HO
        rename World => w2
        obtain ⟨i, hi, rfl, rfl, hb, hown⟩ := hrel
        have HB := Lib.hid hb
        have HO := Lib.hid hown
        have hsz2 := hb.size
        by_cases hlt2 : i < n
        · have hin : i < sz.length := by rw [HN.out]; exact hlt2
          obtain ⟨g, off, rfl, _, g0⟩ := (HR.out.below hb).at1 (f := fun x => .int .i64 x) hin
          rw [← getD_at sz i hin 0] at g0
          have hp := pickTo_range sz L i
          have HPS : Hid (pickTo sz L (i + 1) = if hasB L i = false ∧ (pickTo sz L i < 0 ∨ valZ sz (pickTo sz L i) < sz.getD i 0) then (i : Int) else pickTo sz L i) := Lib.hid rfl
          have HH : Hid (∀ N, Calls Try.prog 15 #[.slice A1 k cap, .int .i64 i] (w2.drewN N) fun e w' => e = .returned (.bool (hasB L i)) ∧ w2.drewN N = w') := Lib.hid (fun N => Has_any A1 k cap L i w2.heap.size (w2.drewN N) HLL.out (by unfold maxLen; omega) (hown.els.drewN N))
          have HCP : Hid (∀ m : Nat, pickTo sz L i = m → ∃ y, y = valZ sz (pickTo sz L i) ∧ w2.cell? ⟨g, off + m, none⟩ = some (.int .i64 y)) := Lib.hid (fun m hm => by
            have hms : m < sz.length := by omega
            obtain ⟨g', off', he, _, g1⟩ := (HR.out.below hb).at1 (f := fun x => .int .i64 x) hms
            obtain ⟨rfl, rfl⟩ : g = g' ∧ off = off' := by simpa using he
            refine ⟨_, rfl, ?_⟩
            rw [← getD_at sz m hms 0] at g1
            rw [hm]
            unfold valZ
            rw [Int.toNat_natCast]
            exact g1)
          obtain ⟨x, hx⟩ : ∃ x, x = sz.getD i 0 := ⟨_, rfl⟩
          rw [← hx] at g0 HPS
          obtain ⟨p, hpp⟩ : ∃ p, p = pickTo sz L i := ⟨_, rfl⟩
          rw [← hpp] at hp HPS HCP ⊢
          have HPP := Lib.hid hpp
          clear hb hown hx hpp
          cases hh : hasB L (i : Int) with
          | true =>
            rw [hh] at HH
            have HN2 : Hid (pickTo sz L (i + 1) = p) := Lib.hid (by rw [HPS.out, if_neg (fun h => by rw [hh] at h; cases h.1)])
            clear hh
            go_wp2_with fail
            go_quiet ((go_at_call 15; exact quietL (HH.out _)))
            go_wp2_with fail
            go_roundw
            case rel => exact ⟨i + 1, by omega, by go_num, by rw [HN2.out], below_drewN HB.out _, HO.out.drewN _⟩
            case measure => simp [intOf]; omega
          | false =>
            rw [hh] at HH
            by_cases hp0 : p < 0
            · have HN2 : Hid (pickTo sz L (i + 1) = i) := Lib.hid (by rw [HPS.out, if_pos ⟨hh, .inl hp0⟩])
              clear hh
              go_wp2_with fail
              go_quiet ((go_at_call 15; exact quietL (HH.out _)))
              go_wp2_with fail
              go_roundw
              case rel => exact ⟨i + 1, by omega, by go_num, by rw [HN2.out], below_drewN HB.out _, HO.out.drewN _⟩
              case measure => simp [intOf]; omega
            · obtain ⟨m, rfl⟩ := Int.eq_ofNat_of_zero_le (show 0 ≤ p by omega)
              have hmn : m < n := by omega
              obtain ⟨y, hy, g1⟩ := HCP.out m rfl
              rw [← hy] at HPS
              clear hy
              by_cases hlt3 : y < x
              · have HN2 : Hid (pickTo sz L (i + 1) = i) := Lib.hid (by rw [HPS.out, if_pos ⟨hh, .inr hlt3⟩])
                clear hh
                go_wp2_with fail
                go_quiet ((go_at_call 15; exact quietL (HH.out _)))
                go_wp2_with fail
                go_roundw
                case rel => exact ⟨i + 1, by omega, by go_num, by rw [HN2.out], below_drewN HB.out _, HO.out.drewN _⟩
                case measure => simp [intOf]; omega
              · have HN2 : Hid (pickTo sz L (i + 1) = m) := Lib.hid (by rw [HPS.out, if_neg (by rintro ⟨_, h | h⟩ <;> omega)])
                clear hh
                go_wp2_with fail
                go_quiet ((go_at_call 15; exact quietL (HH.out _)))
                go_wp2_with fail
                go_roundw
                case rel => exact ⟨i + 1, by omega, by go_num, by rw [HN2.out], below_drewN HB.out _, HO.out.drewN _⟩
                case measure => simp [intOf]; omega
        · obtain rfl : i = n := by omega
          obtain ⟨p, hpp⟩ : ∃ p, p = pickTo sz L i := ⟨_, rfl⟩
          rw [← hpp] at HST ⊢
          clear hb hown hpp
          go_wp2_with (at_builtin; go_loud (refine wpList_push rfl _ _ _ rfl w.heap.size 1 3 (.int .i64 0) 8 Try.underlying36 (by kernel_rfl) rfl (by omega) icell w2 #[.int .i64 p] A1 k cap L HLL.out rfl HO.out 1 [p] rfl rfl _ rfl rfl (by simp [Value.oneCell']) (by unfold maxLen; omega) (by omega) (by omega) ?_; intro A2 cap2 w4 hown2 hgrow hloc))
          go_roundw
          case rel => exact ⟨k + 1, A2, cap2, by omega, by go_num, (HB.out.alloc hsz2 _).grown hgrow (by rw [size_alloc']; omega) (fun g hg => (HO.out.lt g hg).1), by rw [HST.out]; exact hown2⟩
          case measure => simp [lenF]; omega
    · obtain rfl : k = n := by omega
      go_wp2_with fail
      go_ret
      exact ⟨A1, cap, rfl, HB.out, HO.out⟩
end Go.Proofs.Ytokmialpclcodaa
