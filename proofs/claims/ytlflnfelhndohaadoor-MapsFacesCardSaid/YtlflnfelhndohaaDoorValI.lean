/- slices.Values of whole numbers, collected and sorted. Conditions: the slice reads as a list and lies still. -/
import Derived.Test.YtlflnfelhndohaaDoorBackK
import Derived.Test.YtlflnfelhndohaaDoorOwnIn
import Derived.Test.YtlflnfelhndohaaDoorSortK
namespace Go.Proofs.YtlflnfelhndohaaDoor
open Go.RowKit Go.Shelf
attribute [local go_sem] Oper.semAt_some

abbrev valArgs (x : Int) : Array Value := #[.int .i64 x]
theorem pre_take {q : List Int} {d : Nat} (h : d < q.length) : q.take d ++ [q[d]] <+: q := by
  rw [← List.take_succ_eq_append_getElem h]
  exact List.take_prefix _ _
set_option maxRecDepth 100000 in
set_option maxHeartbeats 1000000 in
theorem val_seq (n z P c : Nat) (hn : n ≤ 17592186044415) (A : Option Addr) (q : List Int) (hq : q.length = n) :
    SeqV Tryd.prog 49 #[.pointer (some ⟨P, 0, none⟩)] valArgs (fun V => Blk V P 25 #[.slice A n c] ∧ Els V z 1 icell A q) (fun _ _ => True) (KeepZ z P) (fun W W' => W = W') q := by
  intro m yl J Jx W hini hst hstx hY h0
  obtain ⟨hk, he⟩ := hini
  have HY := Lib.hid hY
  have HQ := Lib.hid hq
  have HE := Lib.hid he
  have HJ : Hid (J (q.take 0) W) := Lib.hid h0
  have c0 := hk.cell 0
  clear hst hstx hY h0 hk he hq
  refine callsIn_of_wp Tryd.func49 rfl trivial ?_ rfl
  simp only [Tryd.ntmps49, List.size_toArray, List.length_cons, List.length_nil, Nat.reduceAdd, Nat.reduceSub, Array.replicate_succ, Array.replicate_zero, List.push_toArray, List.append_toArray, List.nil_append, List.cons_append]
  gi_wp2_with fail
  clear c0
  gi_loopw [7] (fun s7 wr => ∃ d : Nat, d ≤ n ∧ s7 = .int .i64 d ∧ J (q.take d) wr ∧ Els wr z 1 icell A q) (fun s7 _ => n - (intOf s7).toNat)
  case atStart => exact ⟨0, by omega, rfl, HJ.out, HE.out⟩
  case round =>
    clear HJ HE
    rename World => wr
    obtain ⟨d, hd, rfl, hJ, he⟩ := hrel
    have HE := Lib.hid he
    have HJ := Lib.hid hJ
    clear hJ
    by_cases hlt : d < n
    · have hiq : d < q.length := by rw [HQ.out]; exact hlt
      obtain ⟨bl, ol, rfl, _, g0⟩ := he.at1 (f := fun x : Int => .int .i64 x) (k := d) hiq
      have hpx := pre_take hiq
      obtain ⟨fn, tmps, assign, body, hy, hR⟩ := HY.out (m - 1) _ q[d] wr HJ.out trivial hpx
      have HR := Lib.hid hR
      have HPX := Lib.hid hpx
      have HD1 : Hid (q.take (d + 1) = q.take d ++ [q[d]]) := Lib.hid (List.take_succ_eq_append_getElem hiq)
      obtain ⟨v, hv⟩ : ∃ v, v = q[d] := ⟨_, rfl⟩
      rw [← hv] at g0 hy HR HPX HD1
      clear he hR hpx hv hiq
      gi_wp2_with fail
      refine ⟨(fun h => by cases h), HR.out.mono ?_⟩
      clear HR hy
      rintro e W3 (⟨rfl, hJ3, hk3⟩ | ⟨rfl, hJx3⟩)
      · have HJ3 : Hid (J (q.take (d + 1)) W3) := Lib.hid (by rw [HD1.out]; exact hJ3)
        have HE3 := Lib.hid (hk3.els HE.out)
        clear hJ3 hk3
        gi_wp2_with fail
        go_roundw
        case rel => exact ⟨d + 1, by omega, by go_num, HJ3.out, HE3.out⟩
        case measure => first | (simp [intOf]; done) | (simp [intOf]; omega)
      · have HJX := Lib.hid hJx3
        clear hJx3
        gi_wp2_with fail
        refine bodyPost_ret (results_none rfl _ _ _) rfl ?_
        exact ⟨⟨_, rfl⟩, .inr ⟨_, HPX.out, HJX.out⟩⟩
    · obtain rfl : n = d := by omega
      have htk : q.take n = q := List.take_of_length_le (by rw [HQ.out]; exact Nat.le_refl _)
      rw [htk] at HJ
      clear htk
      gi_wp2_with fail
      go_end0
      exact ⟨⟨_, rfl⟩, .inl HJ.out⟩
set_option maxRecDepth 100000 in
theorem val_calls (n c : Nat) (A : Option Addr) (w : World) :
    Calls Tryd.prog 33 #[.slice A n c] w fun e w' => e = .returned (.func (.func 49) #[] #[.pointer (some ⟨w.heap.size, 0, none⟩)]) ∧ w' = w.alloc (.cells #[.slice A n c] 25) := by
  go_enter Tryd.func33, Tryd.ntmps33
  go_wp2_with fail
  go_ret
  exact ⟨rfl, rfl⟩
end Go.Proofs.YtlflnfelhndohaaDoor
