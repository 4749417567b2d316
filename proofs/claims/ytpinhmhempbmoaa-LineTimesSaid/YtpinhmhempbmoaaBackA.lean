/- slices.Backward of whole numbers: what the iterator hands over. Conditions: the slice reads as a list and lies still. -/
import Derived.Test.YtpinhmhempbmoaaIter
import Derived.Test.YtpinhmhempbmoaaOwn
import Derived.Test.YtpinhmhempbmoaaIntsOf
import Derived.Test.YtpinhmhempbmoaaCells
import Derived.IntWalk
namespace Go.Proofs.Ytpinhmhempbmoaa
open Go.RowKit Go.Shelf
attribute [local go_sem] Oper.semAt_some

/-- The first ones from behind, each with its place. -/
def backL (q : List Nat) (n : Nat) : Nat → List (Nat × Nat)
  | 0 => []
  | d + 1 => backL q n d ++ [(n - 1 - d, q.getD (n - 1 - d) 0)]
theorem backL_pre (q : List Nat) (n : Nat) {d : Nat} : ∀ m, d ≤ m → backL q n d <+: backL q n m
  | 0, h => by rw [show d = 0 by omega]; exact List.prefix_refl _
  | m + 1, h => by
    by_cases e : d = m + 1
    · rw [e]; exact List.prefix_refl _
    · exact (backL_pre q n m (by omega)).trans ⟨_, rfl⟩
theorem backL_snd {q : List Nat} {n : Nat} (hq : q.length = n) : ∀ d, d ≤ n → (backL q n d).map Prod.snd = q.reverse.take d
  | 0, _ => rfl
  | d + 1, h => by
    rw [backL, List.map_append, backL_snd hq d (by omega), List.take_add_one, List.getElem?_reverse (by omega), hq, List.getElem?_eq_getElem (by omega)]
    simp [List.getD_eq_getElem?_getD, List.getElem?_eq_getElem (show n - 1 - d < q.length by omega)]
theorem backL_len (q : List Nat) (n : Nat) : ∀ d, (backL q n d).length = d
  | 0 => rfl
  | d + 1 => by rw [backL, List.length_append, backL_len q n d]; rfl
/-- What a round keeps: all that lies low, and the iterator's own box. -/
def KeepZ (z P : Nat) (W W' : World) : Prop := W.heap.size ≤ W'.heap.size ∧ ∀ k, (k < z ∨ k = P) → W'.heap[k]? = W.heap[k]?
theorem KeepZ.els {z P c : Nat} {W W' : World} {α : Type} {f : α → List Value} {A : Option Addr} {l : List α} (h : KeepZ z P W W') (he : Els W z c f A l) : Els W' z c f A l := fun h0 => by
  obtain ⟨g, off, e, hg, hc⟩ := he h0
  refine ⟨g, off, e, hg, fun i a ha j u hu => ?_⟩
  have := hc i a ha j u hu
  unfold World.cell? at this ⊢
  rw [h.2 g (.inl hg)]
  exact this
theorem KeepZ.blk {z P t : Nat} {W W' : World} {cs : Array Value} (h : KeepZ z P W W') (hk : Blk W P t cs) : Blk W' P t cs := (h.2 P (.inr rfl)).trans hk
theorem KeepZ.refl (z P : Nat) (W : World) : KeepZ z P W W := ⟨Nat.le_refl _, fun _ _ => rfl⟩
theorem KeepZ.trans {z P : Nat} {A B C : World} (h : KeepZ z P A B) (k : KeepZ z P B C) : KeepZ z P A C := ⟨Nat.le_trans h.1 k.1, fun i hi => (k.2 i hi).trans (h.2 i hi)⟩

abbrev backArgs (x : Nat × Nat) : Array Value := #[.int .i64 x.1, .int .i64 x.2]
set_option maxRecDepth 100000 in
set_option maxHeartbeats 1000000 in
theorem back_seq (n z P c : Nat) (hn : n ≤ 100000) (A : Option Addr) (q : List Nat) (hq : q.length = n) :
    SeqV Try.prog 70 #[.pointer (some ⟨P, 0, none⟩)] backArgs (fun V => Blk V P 28 #[.slice A n c] ∧ Els V z 1 icell A (intsOf q)) (fun _ _ => True) (KeepZ z P) (fun W W' => W = W') (backL q n n) := by
  intro m yl J Jx W hini hst hstx hY h0
  obtain ⟨hk, he⟩ := hini
  have HY := Lib.hid hY
  have HQ := Lib.hid hq
  have HK := Lib.hid hk
  have HE := Lib.hid he
  have HJ : Hid (J (backL q n 0) W) := Lib.hid h0
  have c0 := hk.cell 0
  clear hst hstx hY h0 hk he hq
  refine callsIn_of_wp Try.func70 rfl trivial ?_ rfl
  simp only [Try.ntmps70, List.size_toArray, List.length_cons, List.length_nil, Nat.reduceAdd, Nat.reduceSub, Array.replicate_succ, Array.replicate_zero, List.push_toArray, List.append_toArray, List.nil_append, List.cons_append]
  have hw1 : IntKind.i64.wrap ((n : Int) - 1) = (n : Int) - 1 := IntWalk.i64_in _ (by omega)
  gi_wp2_with fail
  clear c0
  gi_loopw [3] (fun s3 wr => ∃ d : Nat, d ≤ n ∧ s3 = .int .i64 ((n : Int) - 1 - d) ∧ J (backL q n d) wr ∧ Blk wr P 28 #[.slice A n c] ∧ Els wr z 1 icell A (intsOf q)) (fun s3 _ => (intOf s3 + 1).toNat)
  case atStart => exact ⟨0, by omega, by simp, HJ.out, HK.out, HE.out⟩
  case round =>
    clear HJ HK HE
    rename World => wr
    obtain ⟨d, hd, rfl, hJ, hk, he⟩ := hrel
    have c0 := hk.cell 0
    have HK := Lib.hid hk
    have HE := Lib.hid he
    have HJ := Lib.hid hJ
    clear hk hJ
    by_cases hlt : d < n
    · obtain ⟨i, hi⟩ : ∃ i, i = n - 1 - d := ⟨_, rfl⟩
      have hin : i < n := by omega
      have hiq : i < q.length := by rw [HQ.out]; exact hin
      obtain ⟨bl, ol, rfl, _, g0⟩ := he.at1 (k := i) (by rw [intsOf, List.length_map]; exact hiq)
      rw [show (intsOf q)[i]'(by rw [intsOf, List.length_map]; exact hiq) = ((q[i] : Nat) : Int) by simp [intsOf]] at g0
      rw [show q[i] = q.getD i 0 from (getD_at q i hiq 0).symm] at g0
      have hpx : backL q n d ++ [(i, q.getD i 0)] <+: backL q n n := by
        have := backL_pre q n (d := d + 1) n (by omega)
        rw [backL, ← hi] at this
        exact this
      obtain ⟨fn, tmps, assign, body, hy, hR⟩ := HY.out (m - 1) _ (i, q.getD i 0) wr HJ.out trivial hpx
      have HR := Lib.hid hR
      have HPX := Lib.hid hpx
      have HD1 : Hid (backL q n (d + 1) = backL q n d ++ [(i, q.getD i 0)]) := Lib.hid (by rw [backL, ← hi])
      have hidx : (n : Int) - 1 - d = (i : Int) := by omega
      obtain ⟨v, hv⟩ : ∃ v, v = q.getD i 0 := ⟨_, rfl⟩
      rw [← hv] at g0 hy
      have HV := Lib.hid hv
      have HI : Hid (i = n - 1 - d) := Lib.hid hi
      have hwi : IntKind.i64.wrap ((i : Int) - 1) = (i : Int) - 1 := IntWalk.i64_in _ (by omega)
      rw [hidx]
      clear he hR hpx hv hi hidx
      gi_wp2_with fail
      refine ⟨(fun h => by cases h), HR.out.mono ?_⟩
      clear HR hy
      rintro e W3 (⟨rfl, hJ3, hk3⟩ | ⟨rfl, hJx3⟩)
      · have HJ3 : Hid (J (backL q n (d + 1)) W3) := Lib.hid (by rw [HD1.out]; exact hJ3)
        have HK3 := Lib.hid (hk3.blk HK.out)
        have HE3 := Lib.hid (hk3.els HE.out)
        clear hJ3 hk3
        gi_wp2_with fail
        go_roundw
        case rel => exact ⟨d + 1, by omega, by (have := HI.out; simp; omega), HJ3.out, HK3.out, HE3.out⟩
        case measure => first | (simp [intOf]; done) | (simp [intOf]; omega)
      · have HJX := Lib.hid hJx3
        clear hJx3
        gi_wp2_with fail
        refine bodyPost_ret (results_none rfl _ _ _) rfl ?_
        exact ⟨⟨_, rfl⟩, .inr ⟨_, HPX.out, HJX.out⟩⟩
    · obtain rfl : d = n := by omega
      have hneg : ((d : Int) - 1 - d) = -1 := by omega
      rw [hneg]
      gi_wp2_with fail
      go_end0
      exact ⟨⟨_, rfl⟩, .inl HJ.out⟩
set_option maxRecDepth 100000 in
theorem back_calls (n c : Nat) (A : Option Addr) (w : World) :
    Calls Try.prog 39 #[.slice A n c] w fun e w' => e = .returned (.func (.func 70) #[] #[.pointer (some ⟨w.heap.size, 0, none⟩)]) ∧ w' = w.alloc (.cells #[.slice A n c] 28) := by
  go_enter Try.func39, Try.ntmps39
  go_wp2_with fail
  go_ret
  exact ⟨rfl, rfl⟩
end Go.Proofs.Ytpinhmhempbmoaa
