/- slices.IndexFunc and slices.ContainsFunc at element types of this program, whatever the closure. Conditions: the slice reads as a list; the closure answers p and changes nothing that was there. -/
import Derived.Test.YtjkfogkpacmdlaaProg
import Derived.Test.YtjkfogkpacmdlaaFeeLeast25
import Derived.Test.YtjkfogkpacmdlaaFeeLeast5
namespace Go.Proofs.Ytjkfogkpacmdlaa
open Go.RowKit

set_option maxRecDepth 100000 in
theorem IndexFunc_arcs (F : FuncId) (hF : Ent Try.prog F) (cap : Array Value) (p : Arc → Bool) (A : Option Addr) (n c : Nat) (l : List (Arc)) (w : World) (hl : l.length = n) (hn : n ≤ maxLen) (hr : Els w w.heap.size 4 (fun a => [.int .i64 a.f, .int .i64 a.t, .int .i64 a.m, .int .i64 a.e]) A l)
    (H : ∀ (a : Arc) (wx : World), a ∈ l → Below w.heap.size w wx → Calls Try.prog F (#[.agg #[.int .i64 a.f, .int .i64 a.t, .int .i64 a.m, .int .i64 a.e]] ++ cap) wx fun e w' => e = .returned (.bool (p a)) ∧ Below w.heap.size wx w') :
    Calls Try.prog 62 #[.slice A n c, .func (.func F) #[] cap] w fun e w' => e = .returned (.int .i64 (idxF p l)) ∧ Below w.heap.size w w' := by
  unfold maxLen at hn
  unfold Ent at hF
  have HL := Lib.hid hl
  have HH := Lib.hid H
  clear hl H
  go_enter Try.func62, Try.ntmps62
  go_wp2_with fail
  go_loopw [8] (fun i wr => ∃ k : Nat, k ≤ n ∧ i = .int .i64 k ∧ Below w.heap.size w wr ∧ (l.take k).any p = false) (fun i _ => n - (intOf i).toNat)
  case atStart => exact ⟨0, by omega, rfl, Below.refl _ _, rfl⟩
  case round =>
    obtain ⟨k, hk, rfl, hb, hno⟩ := hrel
    have HK := Lib.hid hno
    clear hno
    by_cases hlt : k < n
    · have hkl : k < l.length := by rw [HL.out]; exact hlt
      obtain ⟨b, off, rfl, hbb, g0, g1, g2, g3⟩ := (hr.below hb).at4 hkl
      have hmem := List.getElem_mem hkl
      obtain ⟨x, hx⟩ : ∃ x, x = l[k] := ⟨_, rfl⟩
      rw [← hx] at g0 g1 g2 g3 hmem
      have HX := Lib.hid hx
      clear hx
      have hcall := HH.out x wr hmem hb
      have HC := Lib.hid hcall
      clear hcall
      rcases hp : p x with _ | _
      · have HP := Lib.hid hp
        go_wp2_with fail
        refine HC.out.mono ?_
        rintro e w' ⟨rfl, hb'⟩
        rw [HP.out]
        clear hp
        go_wp2_with fail
        go_roundw
        case rel => exact ⟨k + 1, by omega, by go_num, hb.trans hb', by rw [any_take_succ _ _ _ hkl, HK.out, ← HX.out, HP.out]; rfl⟩
        case measure => simp [intOf]; omega
      · have HP := Lib.hid hp
        go_wp2_with fail
        refine HC.out.mono ?_
        rintro e w' ⟨rfl, hb'⟩
        rw [HP.out]
        clear hp
        go_wp2_with fail
        go_ret
        exact ⟨ret_i64 (idxF_at hkl HK.out (by rw [← HX.out]; exact HP.out)).symm, hb.trans hb'⟩
    · go_wp2_with fail
      go_ret
      exact ⟨ret_i64 (idxF_none (any_take_all (by rw [HL.out]; omega) HK.out)).symm, hb⟩
theorem ContainsFunc_arcs (F : FuncId) (hF : Ent Try.prog F) (cap : Array Value) (p : Arc → Bool) (A : Option Addr) (n c : Nat) (l : List (Arc)) (w : World) (hl : l.length = n) (hn : n ≤ maxLen) (hr : Els w w.heap.size 4 (fun a => [.int .i64 a.f, .int .i64 a.t, .int .i64 a.m, .int .i64 a.e]) A l)
    (H : ∀ (a : Arc) (wx : World), a ∈ l → Below w.heap.size w wx → Calls Try.prog F (#[.agg #[.int .i64 a.f, .int .i64 a.t, .int .i64 a.m, .int .i64 a.e]] ++ cap) wx fun e w' => e = .returned (.bool (p a)) ∧ Below w.heap.size wx w') :
    Calls Try.prog 49 #[.slice A n c, .func (.func F) #[] cap] w fun e w' => e = .returned (.bool (l.any p)) ∧ Below w.heap.size w w' := by
  have HC := Lib.hid (IndexFunc_arcs F hF cap p A n c l w hl hn hr H)
  have HL := Lib.hid (idxF_nonneg p l)
  clear hl hn hr H hF
  go_enter Try.func49, Try.ntmps49
  go_wp2_with fail
  refine HC.out.mono ?_
  rintro e w' ⟨rfl, hb⟩
  go_wp2_with fail
  go_ret
  exact ⟨ret_bool HL.out, hb⟩

end Go.Proofs.Ytjkfogkpacmdlaa
