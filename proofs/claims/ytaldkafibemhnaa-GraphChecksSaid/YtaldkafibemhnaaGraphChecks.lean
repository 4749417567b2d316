/- The law GraphChecks: both answers are graphCheck. Conditions: the arcs read as a list. -/
import Derived.Test.YtaldkafibemhnaaGraphB
import Derived.Test.YtaldkafibemhnaaOpen
namespace Go.Proofs.Ytaldkafibemhnaa
open Go.RowKit
set_option maxRecDepth 100000 in
set_option maxHeartbeats 1000000 in
theorem law_GraphChecks (N : Int) (A : Option Addr) (n c : Nat) (l : List Ed) (w : World) (hl : l.length = n) (hn : n ≤ maxLen) (hc : n ≤ c) (hr : Els w w.heap.size 3 Ed.cells A l) :
    Calls Try.prog 4 #[.agg #[.int .i64 N, .slice A n c]] w fun e w' => e = .returned (.bool true) ∧ Below w.heap.size w w' := by
  have HL := Lib.hid hl
  have HM := Lib.hid hn
  have HC := Lib.hid hc
  clear hl hn hc
  go_enter Try.func4, Try.ntmps4
  go_wp2
  go_region_held3 (fun w' => w'.cell? ⟨w.heap.size, 0, none⟩ = some (.int .i64 N) ∧ w'.cell? ⟨w.heap.size, 1, none⟩ = some (.slice A n c) ∧ Below w.heap.size w w' ∧ w.heap.size < w'.heap.size)
    (first | exact ⟨(Blk.new w 30 #[.int .i64 N, .slice A n c]).cell 0, (Blk.new w 30 #[.int .i64 N, .slice A n c]).cell 1, ((Below.refl _ _).alloc (Nat.le_refl _) _).drew, by simp⟩ | exact ⟨(hb'.cell (p := ⟨w.heap.size, 0, none⟩) cs).trans c0, (hb'.cell (p := ⟨w.heap.size, 1, none⟩) cs).trans c1, cb.trans (hb'.mono (Nat.le_of_lt cs)), Nat.lt_of_lt_of_le cs hb'.size⟩ | exact ⟨c0, c1, cb, cs⟩)
    (first
      | (go_at_call 17; obtain ⟨c0, c1, cb, cs⟩ : _ ∧ _ ∧ Below w.heap.size w _ ∧ _ := (by assumption); refine (graph_Check N A n c l _ HL.out HM.out ((hr.below cb).more (Nat.le_of_lt cs))).mono ?_; rintro e w' ⟨rfl, hb'⟩)
      | (go_at_call 18; obtain ⟨c0, c1, cb, cs⟩ : _ ∧ _ ∧ Below w.heap.size w _ ∧ _ := (by assumption); refine (ref_GraphCheck N A n c l _ HL.out HM.out HC.out ((hr.below cb).more (Nat.le_of_lt cs))).mono ?_; rintro e w' ⟨rfl, hb'⟩))
  obtain ⟨_, _, hf, _⟩ : _ ∧ _ ∧ Below w.heap.size w w' ∧ _ := (by assumption)
  go_wp2
  go_ret
  exact ⟨rfl, hf⟩
def Ed.of (p : Int × Int × Int) : Ed := ⟨p.1, p.2.1, p.2.2⟩
theorem GraphChecks_row (N : Int) (s : Sls (Int × Int × Int)) (w : World) (_hN : OkI N) (h : s.Good w w.heap.size 3 (fun p => [.int .i64 p.1, .int .i64 p.2.1, .int .i64 p.2.2]) (fun p => OkI p.1 ∧ OkI p.2.1 ∧ OkI p.2.2)) :
    Calls Try.prog 4 #[.agg #[.int .i64 N, s.val]] w fun e w' => e = .returned (.bool true) ∧ Below w.heap.size w w' :=
  law_GraphChecks N s.A s.l.length s.c (s.l.map Ed.of) w (by simp) h.1 h.2.1 (h.2.2.1.map_ Ed.of fun _ _ => rfl)
end Go.Proofs.Ytaldkafibemhnaa
