/- Worlds that come of a world by draws and new blocks alone; what holds stays. For regions that draw their order and append. Conditions: none. -/
import Derived.Test.YtdinknpagklkjaaLotsBests5
import Derived.Test.YtdinknpagklkjaaLotsBests3
import Derived.BigRegionIn
import Derived.RangeFuncNested
import Derived.RangeFuncBound
import Derived.RangeFuncCalls
import Derived.RangeFuncLeaves
import Derived.Shelf.Abstract
import Derived.Shelf.RegionOpen
import Derived.OwnWalkIn
import Derived.TacticsInMore
import Derived.LoopNIn
import Derived.LoopIn
import Derived.Deep.Quiet
import Derived.Test.YtdinknpagklkjaaLotsBests2
namespace Go.Proofs.Ytdinknpagklkjaa
open Go.RowKit

/-- W comes of v by draws and new blocks. -/
inductive Wex (v : World) : World → Prop where
  | refl : Wex v v
  | alloc {W : World} (o : Obj) : Wex v W → Wex v (W.alloc o)
  | drew {W : World} : Wex v W → Wex v W.drew
  | drewN {W : World} (q : Nat) : Wex v W → Wex v (W.drewN q)
theorem Wex.size {v W : World} (h : Wex v W) : v.heap.size ≤ W.heap.size := by
  induction h with
  | refl => exact Nat.le_refl _
  | alloc o _ ih => rw [size_alloc']; omega
  | drew _ ih => exact ih
  | drewN _ _ ih => exact ih
theorem Wex.bel {v W : World} (h : Wex v W) {B : Nat} {w : World} (hb : Below B w v) (hB : B ≤ v.heap.size) : Below B w W := by
  induction h with
  | refl => exact hb
  | alloc o hx ih => exact ih.alloc (Nat.le_trans hB hx.size) o
  | drew _ ih => exact ih.drew
  | drewN _ _ ih => exact below_drewN ih _
theorem Wex.blk {v W : World} (h : Wex v W) {g : Nat} {t : TypeId} {cs : Array Value} (k : Blk v g t cs) : Blk W g t cs := by
  induction h with
  | refl => exact k
  | alloc o _ ih => exact ih.alloc o
  | drew _ ih => exact ih.drew
  | drewN _ _ ih => exact ih.drewN _
theorem Wex.cell {v W : World} (h : Wex v W) {g : Nat} {t : TypeId} {cs : Array Value} (k : Blk v g t cs) (i : Nat) {u : Value} (hu : cs[i]? = some u) : W.cell? ⟨g, i, none⟩ = some u := by
  rw [← hu]
  exact (h.blk k).cell i
theorem Wex.own {v W : World} (h : Wex v W) {α : Type} {B c cap : Nat} {e : TypeId} {f : α → List Value} {A : Option Addr} {l : List α} (k : Own v B e c f A cap l) : Own W B e c f A cap l := by
  induction h with
  | refl => exact k
  | alloc o _ ih => exact ih.alloc o
  | drew _ ih => exact ih.drew
  | drewN _ _ ih => exact ih.drewN _
theorem Own.ne_blk {α : Type} {w : World} {B c cap g : Nat} {e t : TypeId} {f : α → List Value} {A : Option Addr} {l : List α} {cs : Array Value} (h : Own w B e c f A cap l) (hb : Blk w g t cs) (hne : t ≠ e) : some g ≠ blkOf A := by
  intro he
  rcases h.2.2 with ⟨hv, _⟩ | ⟨g', cp, cur, hv, _, hh, _⟩
  · injection hv with hv
    rw [hv] at he; cases he
  · injection hv with hv
    subst hv
    have hg : g = g' := by simpa [blkOf] using he
    subst hg
    unfold Blk at hb
    rw [hh] at hb
    injection hb with hb
    injection hb with _ h2
    exact hne h2.symm
theorem Blk.new_at {W : World} {g : Nat} {t : TypeId} {cs : Array Value} (h : W.heap.size = g) : Blk (W.alloc (.cells cs t)) g t cs := by
  subst h
  exact Blk.new _ _ _
end Go.Proofs.Ytdinknpagklkjaa

/- slices.Collect of a word's bits. Conditions: the iterator is that of graph.Each, its box holds the word; the table. -/
namespace Go.Proofs.Ytdinknpagklkjaa
open Go.RowKit Go.Shelf
attribute [local go_sem] Oper.semAt_some

def bitsI (x : BitVec 32) : List Int := (bitsL x).map fun j : Nat => (j : Int)
theorem bitsL_le (x : BitVec 32) : (bitsL x).length ≤ 32 := by
  unfold bitsL
  have := List.length_filter_le (fun j => x.getLsbD j) (List.range 32)
  simpa using this

end Go.Proofs.Ytdinknpagklkjaa

/- A region that draws its order, walked once: what only reads is taken first, what makes memory comes up alone. In a round and out of one. Conditions: what is read stays in a class of worlds. -/
namespace Go.Proofs.Ytdinknpagklkjaa
open Go.RowKit Go.Shelf

section
variable {P : Program} {md : Region.Mode} {ops : Array Oper} {z : Nat} {C : World → Prop} {Q : Act → World → Prop}

def noP : Exit → Act → World → Prop := fun _ _ _ => False
def opC (P : Program) (ops : Array Oper) (i : Nat) (K : Act → World → Prop) (a : Act) (w : World) : Prop :=
  ∃ o, ops[i]? = some o ∧ ((Region.wanted o (yielded ops a.tmps) = true ∧ o.wp P a w K noP) ∨ (Region.wanted o (yielded ops a.tmps) = false ∧ K (a.put o.dst undef) w))
/-- All orders, the class C kept till the operation z has come up. -/
def anyC (P : Program) (md : Region.Mode) (ops : Array Oper) (z : Nat) (C : World → Prop) (Q : Act → World → Prop) : Nat → Array Bool → Act → World → Prop
  | 0, listed, a, w => (listed.getD z false = true ∨ C w) ∧ Region.ready md ops listed = [] ∧ Q a w
  | fuel + 1, listed, a, w => (listed.getD z false = true ∨ C w) ∧ (Region.ready md ops listed = [] → Q a w) ∧ ∀ i ∈ Region.ready md ops listed, opC P ops i (anyC P md ops z C Q fuel (listed.setIfInBounds i true)) a w
theorem anyC.cls {fuel : Nat} {listed : Array Bool} {a : Act} {w : World} (h : anyC P md ops z C Q fuel listed a w) : listed.getD z false = true ∨ C w := by
  cases fuel <;> exact h.1

/-- In each world of the class an operation leaves v, and the world as it was. -/
def ReadsC (P : Program) (ops : Array Oper) (C : World → Prop) (o : Oper) (v : Value) (a : Act) : Prop :=
  (Region.wanted o (yielded ops a.tmps) = true ∧ ∀ w, C w → (execOp a.eval o).run P w = .ok (.value v) w) ∨ (Region.wanted o (yielded ops a.tmps) = false ∧ v = undef)
theorem ReadsC.opC {i : Nat} {o : Oper} {v : Value} {a : Act} {w : World} {K : Act → World → Prop} (hi : ops[i]? = some o) (hy : ReadsC P ops C o v a) (hw : C w) (h : K (a.put o.dst v) w) : opC P ops i K a w := by
  refine ⟨o, hi, ?_⟩
  rcases hy with ⟨h1, h2⟩ | ⟨h1, rfl⟩
  · refine .inl ⟨h1, ?_⟩
    unfold Oper.wp
    rw [h2 w hw]
    exact h
  · exact .inr ⟨h1, h⟩
theorem ReadsC.of_same {o : Oper} {v : Value} {a a' : Act} (hy : ReadsC P ops C o v a) (he : execOp a'.eval o = execOp a.eval o) (hw : Region.wanted o (yielded ops a'.tmps) = Region.wanted o (yielded ops a.tmps)) : ReadsC P ops C o v a' := by
  unfold ReadsC at *
  rw [he, hw]
  exact hy
theorem wp_imp {o : Oper} {a a' : Act} {w : World} {K K' : Act → World → Prop} (he : execOp a'.eval o = execOp a.eval o) (hd : a'.defers = a.defers) (hk : ∀ (u : Value) (w' : World), K (a.put o.dst u) w' → K' (a'.put o.dst u) w')
    (hdf : ∀ (d : Deferred) (w' : World), K ({ a with defers := d :: a.defers }.put o.dst undef) w' → K' ({ a' with defers := d :: a'.defers }.put o.dst undef) w')
    (h : o.wp P a w K noP) : o.wp P a' w K' noP := by
  unfold Oper.wp at *
  rw [he]
  generalize (execOp a.eval o).run P w = r at *
  cases r with
  | ok n w' =>
    cases n with
    | value v => exact hk _ _ h
    | skip => exact hk _ _ h
    | «defer» d => exact hdf _ _ h
    | enter f args =>
      refine Calls.mono h ?_
      intro e w'' he
      cases e with
      | returned v => exact hk _ _ he
      | panicked c => exact he
      | outgrown => obtain ⟨_, _, hf⟩ := he; exact hf.elim
    | row r args => exact Rows.mono h fun v w'' he => hk _ _ he
    | _ => exact h
  | halt x w' => cases x <;> first | exact h | exact (h : False).elim
theorem opC_put {i j : Nat} {oi oj : Oper} {v : Value} (hj : ops[j]? = some oj) (hap : oi.apart ops oj = true) (hsi : ∀ cs b, oi.op ≠ .select cs b) (hsj : ∀ cs b, oj.op ≠ .select cs b)
    {K : Act → World → Prop} {a : Act} {w : World} (hy : ReadsC P ops C oi v a) (h : opC P ops j K (a.put oi.dst v) w) : opC P ops j (fun a' w' => ReadsC P ops C oi v a' ∧ K (a'.put oi.dst v) w') a w := by
  obtain ⟨h1, h2, h3⟩ := Oper.apart_spec hap
  have keep : ∀ (a : Act), ReadsC P ops C oi v a → ∀ u, ReadsC P ops C oi v (a.put oj.dst u) := fun a hy u =>
    hy.of_same (execOp_put oi hsi a oj.dst u h3) (wanted_put oi a oj.dst u h3)
  obtain ⟨o, ho, hor⟩ := h
  rw [hj] at ho
  cases ho
  refine ⟨oj, hj, ?_⟩
  rw [wanted_put oj a oi.dst v h1] at hor
  rcases hor with ⟨hw, hp⟩ | ⟨hw, hp⟩
  · refine .inl ⟨hw, wp_imp (a := a.put oi.dst v) (a' := a) (execOp_put oj hsj a oi.dst v h1).symm (by cases oi.dst <;> rfl) (fun u w' hk => ⟨keep a hy u, by rw [← Act.put_comm a v u h2]; exact hk⟩) (fun d w' hk => ?_) hp⟩
    have hy' : ReadsC P ops C oi v { a with defers := d :: a.defers } := hy.of_same (by congr 1) rfl
    refine ⟨keep _ hy' undef, ?_⟩
    rw [← Act.put_comm _ v undef h2]
    have e : ({ a.put oi.dst v with defers := d :: (a.put oi.dst v).defers } : Act) = ({ a with defers := d :: a.defers } : Act).put oi.dst v := by cases oi.dst <;> rfl
    rw [← e]
    exact hk
  · exact .inr ⟨hw, keep a hy _, by rw [← Act.put_comm a v undef h2]; exact hp⟩
theorem opC_mono {i : Nat} {K K' : Act → World → Prop} {a : Act} {w : World} (hk : ∀ a w, K a w → K' a w) (h : opC P ops i K a w) : opC P ops i K' a w := by
  obtain ⟨o, ho, h⟩ := h
  refine ⟨o, ho, ?_⟩
  rcases h with ⟨h1, h2⟩ | ⟨h1, h2⟩
  · exact .inl ⟨h1, wp_imp rfl rfl (fun u w' => hk _ _) (fun d w' => hk _ _) h2⟩
  · exact .inr ⟨h1, hk _ _ h2⟩
/-- What has come up is closed under what it waits for. -/
def Cl (md : Region.Mode) (ops : Array Oper) (listed : Array Bool) : Prop := ∀ j o, ops[j]? = some o → listed.getD j false = true → ∀ e ∈ o.after, Region.binds md e = true → listed.getD e.on false = true
theorem Cl.next {listed : Array Bool} {i : Nat} (h : Cl md ops listed) (hr : i ∈ Region.ready md ops listed) : Cl md ops (listed.setIfInBounds i true) := by
  obtain ⟨_, oi, hi, hall⟩ := mem_ready.1 hr
  intro j o ho hj e he hb
  refine getD_set_true ?_
  by_cases hij : i = j
  · subst hij
    rw [hi] at ho
    cases ho
    exact hall e he hb
  · rw [getD_set_ne false hij] at hj
    exact h j o ho hj e he hb
/-- Must i come up ahead of j? -/
def anc (md : Region.Mode) (ops : Array Oper) (i : Nat) : Nat → Nat → Bool
  | 0, _ => false
  | k + 1, j => match ops[j]? with
    | none => false
    | some o => o.after.any fun e => Region.binds md e && (e.on == i || anc md ops i k e.on)
theorem anc_listed {listed : Array Bool} {i : Nat} (hc : Cl md ops listed) : ∀ (k j : Nat) (o : Oper), ops[j]? = some o → (∀ e ∈ o.after, Region.binds md e = true → listed.getD e.on false = true) → anc md ops i k j = true → listed.getD i false = true
  | 0, _, _, _, _, h => by cases h
  | k + 1, j, o, ho, hall, h => by
    unfold anc at h
    rw [ho] at h
    obtain ⟨e, he, hb⟩ := Array.any_eq_true'.1 h
    rw [Bool.and_eq_true, Bool.or_eq_true, beq_iff_eq] at hb
    obtain ⟨h1, h2 | h2⟩ := hb
    · rw [← h2]; exact hall e he h1
    · cases hq : ops[e.on]? with
      | none =>
        cases k with
        | zero => cases h2
        | succ k => unfold anc at h2; rw [hq] at h2; cases h2
      | some q => exact anc_listed hc k e.on q hq (fun e' he' hb' => hc e.on q hq (hall e he h1) e' he' hb') h2
theorem anyC_first {i : Nat} {oi : Oper} {v : Value} (hi : ops[i]? = some oi) (hiz : i ≠ z) (hz : ops[z]? = none ∨ anc md ops i ops.size z = true) (hsel : ∀ (j : Nat) (o : Oper) cs b, ops[j]? = some o → o.op ≠ .select cs b) :
    ∀ (fuel : Nat) (listed : Array Bool) (a : Act) (w : World), Cl md ops listed → listed.getD z false = false →
      (∀ j oj, ops[j]? = some oj → j ≠ i → listed.getD j true = false → (∀ e ∈ oj.after, Region.binds md e = true → e.on ≠ i) → oi.apart ops oj = true) →
      i ∈ Region.ready md ops listed → ReadsC P ops C oi v a → anyC P md ops z C Q fuel (listed.setIfInBounds i true) (a.put oi.dst v) w → anyC P md ops z C Q (fuel + 1) listed a w := by
  intro fuel
  induction fuel with
  | zero =>
    intro listed a w hcl hzl _ hr hy H
    have hC : C w := by
      rcases H.1 with h | h
      · rw [show (listed.setIfInBounds i true).getD z false = listed.getD z false from getD_set_ne false hiz, hzl] at h; cases h
      · exact h
    refine ⟨.inr hC, fun h => (by rw [h] at hr; cases hr), fun j hj => ?_⟩
    by_cases hji : j = i
    · subst hji; exact hy.opC hi hC H
    · have := ready_mono hj hji
      rw [H.2.1] at this
      cases this
  | succ fuel ih =>
    intro listed a w hcl hzl hfree hr hy H
    have hC : C w := by
      rcases H.1 with h | h
      · rw [show (listed.setIfInBounds i true).getD z false = listed.getD z false from getD_set_ne false hiz, hzl] at h; cases h
      · exact h
    refine ⟨.inr hC, fun h => (by rw [h] at hr; cases hr), fun j hj => ?_⟩
    by_cases hji : j = i
    · subst hji; exact hy.opC hi hC H
    · have h1 := H.2.2 j (ready_mono hj hji)
      obtain ⟨hjun, oj, hoj, hall⟩ := mem_ready.1 hj
      have hnot : ∀ e ∈ oj.after, Region.binds md e = true → e.on ≠ i := fun e he hb heq => by
        have h1 := hall e he hb
        have h0 := (mem_ready.1 hr).1
        rw [heq] at h1
        rcases Nat.lt_or_ge i listed.size with h' | h'
        · simp [h'] at h0 h1; rw [h0] at h1; cases h1
        · simp [Array.getElem?_eq_none h'] at h1
      have hjz : j ≠ z := fun e => by
        subst e
        rcases hz with hz | hz
        · rw [hz] at hoj; cases hoj
        · have h1 := anc_listed hcl _ j oj hoj hall hz
          have h0 := (mem_ready.1 hr).1
          rcases Nat.lt_or_ge i listed.size with h' | h'
          · simp [h'] at h0 h1; rw [h0] at h1; cases h1
          · simp [Array.getElem?_eq_none h'] at h1
      have h2 := opC_put (i := i) hoj (hfree j oj hoj hji hjun hnot) (fun cs b => hsel i oi cs b hi) (fun cs b => hsel j oj cs b hoj) hy h1
      have hfree' : ∀ k ok, ops[k]? = some ok → k ≠ i → (listed.setIfInBounds j true).getD k true = false →
          (∀ e ∈ ok.after, Region.binds md e = true → e.on ≠ i) → oi.apart ops ok = true := fun k ok hk hki hun hno => by
        refine hfree k ok hk hki ?_ hno
        by_cases hjk : j = k
        · subst hjk; exact hjun
        · rw [getD_set_ne true hjk] at hun; exact hun
      refine opC_mono (fun a' w' h3 => ih (listed.setIfInBounds j true) a' w' (hcl.next hj) (by rw [getD_set_ne false hjz]; exact hzl) hfree' (ready_mono hr (Ne.symm hji)) h3.1 ?_) h2
      rw [Array.setIfInBounds_comm _ _ hji]
      exact h3.2

def lateB (md : Region.Mode) (ops : Array Oper) (z i : Nat) : Bool := !(i == z) && (ops[z]?.isNone || anc md ops i ops.size z)
theorem lateB_spec {i : Nat} (h : lateB md ops z i = true) : i ≠ z ∧ (ops[z]? = none ∨ anc md ops i ops.size z = true) := by
  unfold lateB at h
  rw [Bool.and_eq_true, Bool.or_eq_true] at h
  exact ⟨by simpa using h.1, h.2.imp (fun h => by simpa using h) id⟩
def closedB (md : Region.Mode) (ops : Array Oper) (listed : Array Bool) : Bool := (List.range ops.size).all fun j => !(listed.getD j false) || match ops[j]? with
  | none => true
  | some o => o.after.all fun e => !Region.binds md e || listed.getD e.on false
theorem closedB_spec {listed : Array Bool} (h : closedB md ops listed = true) : Cl md ops listed := by
  intro j o ho hj e he hb
  unfold closedB at h
  have h1 := List.all_eq_true.1 h j (List.mem_range.2 (Array.getElem?_eq_some_iff.1 ho).1)
  rw [hj, ho] at h1
  simp only [Bool.not_true, Bool.false_or] at h1
  have h2 := Array.all_eq_true_iff_forall_mem.1 h1 e he
  rw [hb] at h2
  simpa using h2
theorem anyC_take {i : Nat} {oi : Oper} {v : Value} {fuel : Nat} {listed : Array Bool} {a : Act} {w : World} (hcl : Cl md ops listed) (hi : ops[i]? = some oi) (hz : lateB md ops z i = true) (hs : Region.noSelect ops = true) (hzl : listed.getD z false = false) (hf : Region.free md ops listed i = true) (hr : (Region.ready md ops listed).contains i = true)
    (hy : ReadsC P ops C oi v a) (h : anyC P md ops z C Q fuel (listed.setIfInBounds i true) (a.put oi.dst v) w) : anyC P md ops z C Q (fuel + 1) listed a w :=
  anyC_first hi (lateB_spec hz).1 (lateB_spec hz).2 (Region.noSelect_spec hs) fuel listed a w hcl hzl (Region.free_spec hi hf) (by simpa using hr) hy h
/-- Operations that only read, one behind the other. -/
def readC (P : Program) (ops : Array Oper) (C : World → Prop) (K : Act → Prop) : List Oper → Act → Prop
  | [], a => K a
  | o :: l, a => ∃ v, ReadsC P ops C o v a ∧ readC P ops C K l (a.put o.dst v)
theorem readC_nil {K : Act → Prop} {a : Act} (h : K a) : readC P ops C K [] a := h
theorem readC_step {K : Act → Prop} {l : List Oper} {o : Oper} {v : Value} {a : Act} (hw : Region.wanted o (yielded ops a.tmps) = true) (hy : ∀ w, C w → (execOp a.eval o).run P w = .ok (.value v) w) (h : readC P ops C K l (a.put o.dst v)) : readC P ops C K (o :: l) a :=
  ⟨v, .inl ⟨hw, hy⟩, h⟩
theorem readC_skip {K : Act → Prop} {l : List Oper} {o : Oper} {a : Act} (hw : Region.wanted o (yielded ops a.tmps) = false) (h : readC P ops C K l (a.put o.dst undef)) : readC P ops C K (o :: l) a :=
  ⟨undef, .inr ⟨hw, rfl⟩, h⟩
/-- May these come up first, in this order? -/
def orderB (md : Region.Mode) (ops : Array Oper) (z : Nat) : List Nat → Array Bool → Bool
  | [], _ => true
  | i :: is, listed => lateB md ops z i && !(listed.getD z false) && Region.free md ops listed i && (Region.ready md ops listed).contains i && orderB md ops z is (listed.setIfInBounds i true)
def listAll : List Nat → Array Bool → Array Bool
  | [], listed => listed
  | i :: is, listed => listAll is (listed.setIfInBounds i true)
theorem anyC_reads' (hs : Region.noSelect ops = true) : ∀ (is : List Nat) (l : List Oper) (_ : (is.filterMap fun i => ops[i]?) = l) (fuel : Nat) (listed : Array Bool) (a : Act) (w : World), Cl md ops listed → orderB md ops z is listed = true → readC P ops C (fun a' => anyC P md ops z C Q fuel (listAll is listed) a' w) l a → anyC P md ops z C Q (fuel + is.length) listed a w
  | [], l, hl, _, _, _, _, _, _, h => by
    subst hl
    exact h
  | i :: is, l, hl, fuel, listed, a, w, hcl, hB, h => by
    unfold orderB at hB
    simp only [Bool.and_eq_true, Bool.not_eq_true'] at hB
    obtain ⟨⟨⟨⟨h1, h2⟩, h3⟩, h4⟩, h5⟩ := hB
    obtain ⟨o, hi⟩ : ∃ o, ops[i]? = some o := by
      unfold Region.free at h3
      cases ho : ops[i]? with
      | none => rw [ho] at h3; cases h3
      | some o => exact ⟨o, rfl⟩
    rw [List.filterMap_cons_some hi] at hl
    subst hl
    obtain ⟨v, hy, hk⟩ := h
    exact anyC_take hcl hi h1 hs h2 h3 h4 hy (anyC_reads' hs is _ rfl fuel _ _ w (hcl.next (by simpa using h4)) h5 hk)
theorem anyC_reads (hs : Region.noSelect ops = true) (is : List Nat) (l : List Oper) (hl : (is.filterMap fun i => ops[i]?) = l) (fuel : Nat) (listed : Array Bool) (a : Act) (w : World) (hB : (closedB md ops listed && orderB md ops z is listed) = true) (h : readC P ops C (fun a' => anyC P md ops z C Q fuel (listAll is listed) a' w) l a) : anyC P md ops z C Q (fuel + is.length) listed a w := by
  rw [Bool.and_eq_true] at hB
  exact anyC_reads' hs is l hl fuel listed a w (closedB_spec hB.1) hB.2 h
theorem anyC_one {i : Nat} {o : Oper} {fuel : Nat} {listed : Array Bool} {a : Act} {w : World} (hr : Region.ready md ops listed = [i]) (hi : ops[i]? = some o) (hw : Region.wanted o (yielded ops a.tmps) = true) (hC : listed.getD z false = true ∨ C w)
    (h : o.wp P a w (anyC P md ops z C Q fuel (listed.setIfInBounds i true)) noP) : anyC P md ops z C Q (fuel + 1) listed a w :=
  ⟨hC, fun h0 => (by rw [hr] at h0; cases h0), fun j hj => by
    rw [hr, List.mem_singleton] at hj
    subst hj
    exact ⟨o, hi, .inl ⟨hw, h⟩⟩⟩
theorem anyC_end {listed : Array Bool} {a : Act} {w : World} (hr : Region.ready md ops listed = []) (hC : listed.getD z false = true ∨ C w) (h : Q a w) : anyC P md ops z C Q 0 listed a w := ⟨hC, hr, h⟩

theorem wp_noP {o : Oper} {a : Act} {w : World} {K : Act → World → Prop} {Q' : Exit → Act → World → Prop} (h : o.wp P a w K noP) : o.wp P a w K Q' := by
  unfold Oper.wp at *
  generalize (execOp a.eval o).run P w = r at *
  cases r with
  | ok n w' =>
    cases n with
    | enter f args =>
      refine Calls.mono h ?_
      intro e w'' he
      cases e with
      | returned v => exact he
      | panicked c => exact (he : False).elim
      | outgrown => obtain ⟨_, _, hf⟩ := he; exact hf.elim
    | _ => exact h
  | halt x w' => cases x <;> first | exact h | exact (h : False).elim
theorem anyC_any {Q' : Exit → Act → World → Prop} (hQ : ∀ a w, Q a w → Q' .normal a w) : ∀ (fuel : Nat) (listed : Array Bool) (a : Act) (w : World), anyC P md ops z C Q fuel listed a w → wpAny P md ops Q' fuel listed a w
  | 0, _, _, _, h => ⟨h.2.1, hQ _ _ h.2.2⟩
  | fuel + 1, listed, a, w, h => ⟨fun h0 => hQ _ _ (h.2.1 h0), fun i hi => by
    obtain ⟨o, ho, hor⟩ := h.2.2 i hi
    unfold wpOp
    rw [ho]
    simp only
    rcases hor with ⟨hw, hp⟩ | ⟨hw, hp⟩
    · rw [if_pos hw]
      exact .inl (wp_noP (wp_imp (a := a) (a' := a) rfl rfl (fun u w' => anyC_any hQ fuel _ _ _) (fun d w' => anyC_any hQ fuel _ _ _) hp))
    · rw [if_neg (by rw [hw]; simp)]
      exact anyC_any hQ fuel _ _ _ hp⟩
theorem region_plain {id : Nat} {Q' : Exit → Act → World → Prop} {a : Act} {w : World} (z N : Nat) (C : World → Prop) (hm : P.follows .mixedOrders = true) (hN : ops.size = N) (h : anyC P .any ops z C (fun a w => Q' .normal a w) N (Array.replicate N false) a w.drew) : (Code.region id ops true).wp P Q' a w := by
  subst hN
  exact wp_region_any hm (anyC_any (fun _ _ h => h) _ _ _ _ h)
theorem region_wide {id n : Nat} {Q' : Exit → Act → World → Prop} {a : Act} {w : World} (z N : Nat) (C : World → Prop) (hm : P.follows .mixedOrders = true) (hN : ops.size = N) (h : anyC P .any ops z C (fun a w => Q' .normal a w) N (Array.replicate N false) a w.drew) : (Code.region id ops true).wpIn Fence.wide n P Q' a w :=
  wpIn_wide.2 (region_plain z N C hm hN h)
def noDefer (ops : Array Oper) : Bool := ops.all fun o => match o.op with | .defer _ => false | _ => true
theorem noDefer_spec (h : noDefer ops = true) (j : Nat) (o : Oper) (ho : ops[j]? = some o) (c : Call) : o.op ≠ .defer c := by
  intro heq
  have := Array.all_eq_true_iff_forall_mem.1 h o (Array.mem_of_getElem? ho)
  simp [heq] at this
theorem wpIn_noP {o : Oper} {a : Act} {w : World} {l n : Nat} {K : Act → World → Prop} {Q' : Exit → Act → World → Prop} (hnd : ∀ c, o.op ≠ .defer c) (h : o.wp P a w K noP) : o.wpIn (Fence.wide.inRound l) n P a w K Q' := by
  unfold Oper.wp at h
  unfold Oper.wpIn
  refine ⟨fun _ _ => trivial, ?_⟩
  rw [Oper.semAt_eq _ _ _ hnd]
  generalize (execOp a.eval o).run P w = r at *
  cases r with
  | ok k w' =>
    cases k with
    | enter f args =>
      refine ⟨fun h => (by cases h), CallsIn.inRound l (callsIn_wide.2 (Calls.mono h ?_))⟩
      intro e w'' he
      cases e with
      | returned v => exact he
      | panicked c => exact (he : False).elim
      | outgrown => obtain ⟨_, _, hf⟩ := he; exact hf.elim
    | row r args => exact ⟨fun h => (by cases h), fun c cs _ => let ⟨v, w', r, s⟩ := h c cs; ⟨v, w', r, stepsIn_wide.2 s⟩⟩
    | value v => exact h
    | skip => exact h
    | «defer» d => exact h
    | _ => exact (h : False).elim
  | halt x w' => cases x <;> first | exact (h : False).elim | exact h
theorem anyC_in {l n : Nat} (hnd : noDefer ops = true) {Q' : Exit → Act → World → Prop} (hQ : ∀ a w, Q a w → Q' .normal a w) : ∀ (fuel : Nat) (listed : Array Bool) (a : Act) (w : World), anyC P md ops z C Q fuel listed a w → wpAnyIn (Fence.wide.inRound l) n P md ops Q' fuel listed a w
  | 0, _, _, _, h => ⟨h.2.1, hQ _ _ h.2.2⟩
  | fuel + 1, listed, a, w, h => ⟨fun h0 => hQ _ _ (h.2.1 h0), fun i hi => by
    obtain ⟨o, ho, hor⟩ := h.2.2 i hi
    unfold wpOpIn
    rw [ho]
    simp only
    rcases hor with ⟨hw, hp⟩ | ⟨hw, hp⟩
    · rw [if_pos hw]
      exact wpIn_noP (fun c => noDefer_spec hnd i o ho c) (wp_imp (a := a) (a' := a) rfl rfl (fun u w' => anyC_in hnd hQ fuel _ _ _) (fun d w' => anyC_in hnd hQ fuel _ _ _) hp)
    · rw [if_neg (by rw [hw]; simp)]
      exact ⟨fun _ _ => trivial, anyC_in hnd hQ fuel _ _ _ hp⟩⟩
theorem region_round {l n id : Nat} {Q' : Exit → Act → World → Prop} {a : Act} {w : World} (z N : Nat) (C : World → Prop) (hm : P.follows .mixedOrders = true) (hN : ops.size = N) (hnd : noDefer ops = true) (h : anyC P .any ops z C (fun a w => Q' .normal a w) N (Array.replicate N false) a w.drew) : (Code.region id ops true).wpIn (Fence.wide.inRound l) n P Q' a w := by
  subst hN
  exact wpIn_region_any hm (anyC_in hnd (fun _ _ h => h) _ _ _ _ h)
end
end Go.Proofs.Ytdinknpagklkjaa

/- All words of some numbers, put together. Conditions: none. -/
namespace Go.Proofs.Ytdinknpagklkjaa
open Go.RowKit

/-- The words of all those, put together. -/
def orAll (l : List (BitVec 32)) (x : BitVec 32) (js : List Nat) : BitVec 32 := js.foldl (fun a j => wOr a (lw l j)) x
theorem orAll_app (l : List (BitVec 32)) (x : BitVec 32) (js : List Nat) (j : Nat) : orAll l x (js ++ [j]) = wOr (orAll l x js) (lw l j) := by simp [orAll]
theorem orAll_bit (l : List (BitVec 32)) (b : Nat) : ∀ (js : List Nat) (x : BitVec 32), (orAll l x js).getLsbD b = (x.getLsbD b || js.any fun j => (lw l j).getLsbD b)
  | [], x => by simp [orAll]
  | j :: js, x => by
    show (orAll l (wOr x (lw l j)) js).getLsbD b = _
    rw [orAll_bit l b js, b_or, List.any_cons, Bool.or_assoc]
/-- The words of those of the first k that are in s, put together. -/
def orTo (l : List (BitVec 32)) (s : BitVec 32) : Nat → BitVec 32
  | 0 => w0
  | k + 1 => if bitB s k = true then wOr (orTo l s k) (lw l k) else orTo l s k
theorem orTo_bit (l : List (BitVec 32)) (s : BitVec 32) (b : Nat) : ∀ k, (orTo l s k).getLsbD b = true ↔ ∃ j, j < k ∧ s.getLsbD j = true ∧ (lw l j).getLsbD b = true
  | 0 => by simp [orTo, b_0]
  | k + 1 => by
    have ih := orTo_bit l s b k
    rw [orTo, bitB_nat]
    by_cases hk : s.getLsbD k = true
    · rw [if_pos hk, b_or, Bool.or_eq_true, ih]
      constructor
      · rintro (⟨j, hj, h⟩ | h)
        · exact ⟨j, by omega, h⟩
        · exact ⟨k, by omega, hk, h⟩
      · rintro ⟨j, hj, h⟩
        by_cases hjk : j = k
        · subst hjk; exact .inr h.2
        · exact .inl ⟨j, by omega, h⟩
    · rw [if_neg hk, ih]
      constructor
      · rintro ⟨j, hj, h⟩; exact ⟨j, by omega, h⟩
      · rintro ⟨j, hj, h⟩
        by_cases hjk : j = k
        · subst hjk; exact absurd h.1 hk
        · exact ⟨j, by omega, h⟩
theorem orAll_orTo (l : List (BitVec 32)) (s : BitVec 32) {n : Nat} (h : ∀ j ∈ bitsL s, j < n) : orAll l w0 (bitsL s) = orTo l s n := by
  refine w_ext fun b _ => ?_
  rw [Bool.eq_iff_iff, orTo_bit, orAll_bit, b_0, Bool.false_or, List.any_eq_true]
  constructor
  · rintro ⟨j, hj, hb⟩; exact ⟨j, h j hj, mem_bitsL.1 hj, hb⟩
  · rintro ⟨j, _, hj, hb⟩; exact ⟨j, mem_bitsL.2 hj, hb⟩
/-- The bits of a word below 2 ^ n. -/
theorem bits_below {s : BitVec 32} {n : Nat} (h : s.toNat < 2 ^ n) : ∀ j ∈ bitsL s, j < n := fun j hj => by
  rcases Nat.lt_or_ge j n with hlt | hge
  · exact hlt
  · have := mem_bitsL.1 hj
    rw [bit_lt h hge] at this
    cases this
end Go.Proofs.Ytdinknpagklkjaa

/- What a range over a function leaves as it was: all blocks but some boxes; the law for a range over the bits of a word that never breaks, and for one that may. -/
namespace Go.Proofs.Ytdinknpagklkjaa
open Go.RowKit Go.Shelf

theorem KpE.drew {bx : Nat} {t : TypeId} {A B : World} (h : KpE bx t A B) : KpE bx t A B.drew := ⟨fun v hv => h.1 v hv, fun ht => (h.2 ht).block (Nat.le_refl _) rfl⟩

/-- A range over a word's bits whose rounds write the boxes ex alone (the iterator's among them). -/
theorem wpIn_bits {P : Program} {p q : Nat} {g : Operand} {assign body : Code} {Q : Exit → Act → World → Prop} {t : Array Value} {ds : List Deferred} {w : World} (n : Nat) (gf : FuncId) (bx : Nat) (ty : TypeId) (x0 : Value) (xs : List Nat) (ex : List Nat)
    (hg : ({ tmps := t, defers := ds } : Act).eval g = .func (.func gf) #[] #[.pointer (some ⟨bx, 0, none⟩)]) (eg : ∀ args w, (callFunc gf args).run P w = .ok (.enter gf args) w)
    (hseq : SeqE (n - 1) P gf bx ty x0 xs) (hbox : Boxed w bx ty x0) (htab : TabOk w) (hex : bx ∈ ex)
    (I : List Nat → World → Prop) (Ix : Code → List Nat → World → Prop) (hI : Go.Own I) (hIx : ∀ c, Go.Own (Ix c)) (hst : ∀ s A v, I s A → I s (A.setCell ⟨bx, 0, none⟩ v)) (h0 : I [] w)
    (hassign : ∀ (l : Nat) (x : Nat) (W : World) (K : Act → World → Prop), K { tmps := (t.setIfInBounds p (.int .i64 (x : Nat))).setIfInBounds q (.int .i64 (x : Nat)), defers := [] } W →
      assign.wpIn (Fence.wide.inRound l) (n - 1 - 1) P (Exit.then K (fun _ _ _ => False)) { tmps := t.setIfInBounds p (.int .i64 (x : Nat)), defers := [] } W)
    (hbody : ∀ (l : Nat) (pre : List Nat) (x : Nat) (W : World), Held ex w W → I pre W → pre ++ [x] <+: xs → body.wpIn (Fence.wide.inRound l) (n - 1 - 1) P (ownPostG w.heap.size (KpE bx ty) (fun s W => Held ex w W ∧ I s W) (fun c s W => Held ex w W ∧ Ix c s W) (pre ++ [x]) W)
      { tmps := (t.setIfInBounds p (.int .i64 (x : Nat))).setIfInBounds q (.int .i64 (x : Nat)), defers := [] } W)
    (hdone : ∀ (D : Nat) (W : World), w.heap.size ≤ D → Held ex w W → I xs W → W.heap[D]? = some (.deferred (some [])) → Q .normal { tmps := t, defers := { target := .collected D, args := #[] } :: ds } W)
    (hstop : ∀ (D : Nat) (c : Code) (pre : List Nat) (W : World), w.heap.size ≤ D → pre <+: xs → Held ex w W → Ix c pre W → W.heap[D]? = some (.deferred (some [])) → c.wpIn Fence.wide n P Q { tmps := t, defers := { target := .collected D, args := #[] } :: ds } W) :
    (Code.rangeFunc g #[p] assign body).wpIn Fence.wide n P Q { tmps := t, defers := ds } w := by
  refine wpIn_each n gf bx ty x0 xs hg eg hseq rfl hbox.lt hbox htab (fun s W => Held ex w W ∧ I s W) (fun c s W => Held ex w W ∧ Ix c s W) ?_ ?_ ?_ ⟨Held.refl _ _, h0⟩
    (fun x => { tmps := (t.setIfInBounds p (.int .i64 (x : Nat))).setIfInBounds q (.int .i64 (x : Nat)), defers := [] }) ?_ ?_ ?_ ?_
  · exact OwnFrom.and Held.own (Go.Own.from hI _)
  · exact fun c => OwnFrom.and Held.own (Go.Own.from (hIx c) _)
  · exact fun s A v h => ⟨h.1.setCell (p := ⟨bx, 0, none⟩) hex v, hst s A v h.2⟩
  · intro l x W K hK
    have e : (#[p].zip #[Value.int .i64 (x : Nat)]).foldl (fun t (p, v) => t.setIfInBounds p v) t = t.setIfInBounds p (.int .i64 (x : Nat)) := by simp
    have := hassign l x W K hK
    rw [← e] at this
    exact this
  · exact fun l pre x W h hp => hbody l pre x W h.1 h.2 hp
  · exact fun D W hD h hk => hdone D W hD h.1 h.2 hk
  · exact fun D c pre W hD hp h hk => hstop D c pre W hD hp h.1 h.2 hk
end Go.Proofs.Ytdinknpagklkjaa

/- A range over a word's bits whose rounds write some blocks. Conditions: none. -/
namespace Go.Proofs.Ytdinknpagklkjaa
open Go.RowKit Go.Shelf
attribute [local go_sem] Oper.semAt_some

/-- A range over a word's bits whose rounds write the boxes ex and a map made ahead of it. -/
theorem wpIn_bitsF {P : Program} {p q : Nat} {g : Operand} {assign body : Code} {Q : Exit → Act → World → Prop} {t : Array Value} {ds : List Deferred} {w : World} (n : Nat) (gf : FuncId) (bx : Nat) (ty : TypeId) (x0 : Value) (xs : List Nat) (ex : List Nat)
    (hg : ({ tmps := t, defers := ds } : Act).eval g = .func (.func gf) #[] #[.pointer (some ⟨bx, 0, none⟩)]) (eg : ∀ args w, (callFunc gf args).run P w = .ok (.enter gf args) w)
    (hseq : SeqE (n - 1) P gf bx ty x0 xs) (hbox : Boxed w bx ty x0) (htab : TabOk w) (hex : bx ∈ ex)
    (I : List Nat → World → Prop) (hI : OwnFrom w.heap.size I) (hst : ∀ s A v, I s A → I s (A.setCell ⟨bx, 0, none⟩ v)) (h0 : I [] w)
    (hassign : ∀ (l : Nat) (x : Nat) (W : World) (K : Act → World → Prop), K { tmps := (t.setIfInBounds p (.int .i64 (x : Nat))).setIfInBounds q (.int .i64 (x : Nat)), defers := [] } W →
      assign.wpIn (Fence.wide.inRound l) (n - 1 - 1) P (Exit.then K (fun _ _ _ => False)) { tmps := t.setIfInBounds p (.int .i64 (x : Nat)), defers := [] } W)
    (hbody : ∀ (l : Nat) (pre : List Nat) (x : Nat) (W : World), Held ex w W → I pre W → pre ++ [x] <+: xs → body.wpIn (Fence.wide.inRound l) (n - 1 - 1) P (ownPostG w.heap.size (KpE bx ty) (fun s W => Held ex w W ∧ I s W) (fun _ _ _ => False) (pre ++ [x]) W)
      { tmps := (t.setIfInBounds p (.int .i64 (x : Nat))).setIfInBounds q (.int .i64 (x : Nat)), defers := [] } W)
    (hdone : ∀ (D : Nat) (W : World), w.heap.size ≤ D → Held ex w W → I xs W → W.heap[D]? = some (.deferred (some [])) → Q .normal { tmps := t, defers := { target := .collected D, args := #[] } :: ds } W) :
    (Code.rangeFunc g #[p] assign body).wpIn Fence.wide n P Q { tmps := t, defers := ds } w := by
  refine wpIn_each n gf bx ty x0 xs hg eg hseq rfl hbox.lt hbox htab (fun s W => Held ex w W ∧ I s W) (fun _ _ _ => False) ?_ ?_ ?_ ⟨Held.refl _ _, h0⟩
    (fun x => { tmps := (t.setIfInBounds p (.int .i64 (x : Nat))).setIfInBounds q (.int .i64 (x : Nat)), defers := [] }) ?_ ?_ ?_ ?_
  · exact OwnFrom.and Held.own hI
  · exact fun c _ _ _ _ h _ _ => h
  · exact fun s A v h => ⟨h.1.setCell (p := ⟨bx, 0, none⟩) hex v, hst s A v h.2⟩
  · intro l x W K hK
    have e : (#[p].zip #[Value.int .i64 (x : Nat)]).foldl (fun t (p, v) => t.setIfInBounds p v) t = t.setIfInBounds p (.int .i64 (x : Nat)) := by simp
    have := hassign l x W K hK
    rw [← e] at this
    exact this
  · exact fun l pre x W h hp => hbody l pre x W h.1 h.2 hp
  · exact fun D W hD h hk => hdone D W hD h.1 h.2 hk
  · exact fun D c pre W hD hp h hk => h.elim
theorem Held.turned {ex : List Nat} {a w w' : World} {r : Nat} (h : Held ex a w) (hg : w.grownBy w' (some r)) (hr : r ∈ ex) : Held ex a w' :=
  ⟨hg.os.trans h.os, hg.tape.trans h.tape, hg.output.trans h.output, Nat.le_trans h.size hg.size, fun k hk hx => (hg.block k (Nat.lt_of_lt_of_le hk h.size) (fun e => by cases e; exact hx hr)).trans (h.block k hk hx)⟩

end Go.Proofs.Ytdinknpagklkjaa

/- A base of words in a map; the rank of some words: the program's walk. Conditions: the words read as a list; the table. -/
namespace Go.Proofs.Ytdinknpagklkjaa
open Go.RowKit Go.Shelf
attribute [local go_sem] Oper.semAt_some
attribute [local go_sem ↓] w_and w_or w_xor w_andNot w_and1 w_and255 w_xor1 w_or0 w_shl w_shl1 w_shr w_sub w_add w_sub1 w_add1
attribute [local go_sem] w_eq0 w_ne0 w_eq1 w_eq w_ne

abbrev lotK (n : Int) : Value := .int .i64 n
theorem word_measure (a : BitVec 32) : bl (intOf (.int .u32 (wN a))).toNat = bl a.toNat := rfl
set_option maxRecDepth 100000 in
set_option maxHeartbeats 1000000 in
theorem base_add (r : Nat) (b : List (BitVec 32)) (x : BitVec 32) (w : World) (hm : MapB w r lotK (baseL b)) (hb : Base b) :
    Calls Try.prog 78 #[.map (some r), .int .u32 (wN x)] w fun e w' => ∃ (b' : List (BitVec 32)) (g : Bool), e = .returned (.bool g) ∧ AddR b x b' g ∧ MapB w' r lotK (baseL b') ∧ w.grownBy w' (some r) := by
  have HM := Lib.hid hm
  have HB := Lib.hid hb
  clear hm hb
  go_enter Try.func78, Try.ntmps78
  go_wp2_with fail
  go_loopw [1] (fun s wr => ∃ c : BitVec 32, s = .int .u32 (wN c) ∧ Sp b (wXor x c) ∧ wr = w) (fun s _ => bl (intOf s).toNat)
  case atStart => exact ⟨x, rfl, by rw [x_self]; exact Sp_0 b, rfl⟩
  case round =>
    rename World => wr
    obtain ⟨c, rfl, hs, rfl⟩ := hrel
    have HS := Lib.hid hs
    clear hs
    by_cases hc : c = w0
    · have hc0 : (c != w0) = false := by simp [hc]
      have HC := Lib.hid hc
      clear hc
      go_wp2_with fail
      go_ret
      exact ⟨b, false, rfl, AddR.old HB.out HS.out HC.out, HM.out, World.grownBy.refl _ _⟩
    · have hc0 : (c != w0) = true := by simp [hc]
      have HC := Lib.hid hc
      clear hc
      have hlook := run_look (P := Try.prog) (keyL_int Try.underlying3) Try.underlying140 (z := .int .u32 0) (fun u => by kernel_rfl) HM.out (bl c.toNat : Int) true
      rcases getK_base (bl c.toNat) b with ⟨hg, hno⟩ | ⟨y, hy, he, hg⟩
      · rw [hg] at hlook
        simp only [if_true, Option.getD_none, Option.isSome_none] at hlook
        obtain ⟨W2, hput, hM2, hgrow, hsz⟩ := run_put (P := Try.prog) (keyL_int Try.underlying3) Try.underlying140 HM.out (bl c.toNat : Int) (.int .u32 (wN c))
        rw [putK_base hno] at hM2
        have HNO := Lib.hid hno
        have HM2 := Lib.hid hM2
        have HG := Lib.hid hgrow
        clear hno hM2 hgrow hsz hg
        go_wp2_with fail
        refine (Len32_any c _).mono ?_
        rintro e w' ⟨rfl, rfl⟩
        go_wp2_with fail
        go_ret
        exact ⟨b ++ [c], true, rfl, AddR.new HB.out HS.out HC.out HNO.out, HM2.out, HG.out⟩
      · rw [hg] at hlook
        simp only [if_true, Option.getD_some, Option.isSome_some] at hlook
        have HST := Lib.hid (AddR.step HB.out HS.out HC.out hy he)
        clear hy he hg
        go_wp2_with fail
        refine (Len32_any c _).mono ?_
        rintro e w' ⟨rfl, rfl⟩
        go_wp2_with fail
        go_roundw
        case rel => exact ⟨wXor c y, rfl, HST.out.1, trivial⟩
        case measure => rw [word_measure, word_measure]; exact HST.out.2
theorem own_map {W0 : World} {r : Nat} {b : List Nat → List (BitVec 32) → Prop} (hr : r < W0.heap.size) : OwnFrom W0.heap.size (fun (pre : List Nat) W => ∃ bs, b pre bs ∧ MapB W r lotK (baseL bs)) :=
  fun pre X Y row h hg hrow => by
    obtain ⟨bs, h1, h2⟩ := h
    exact ⟨bs, h1, h2.grown hg (fun e => by have := (hrow r e.symm).1; omega)⟩

end Go.Proofs.Ytdinknpagklkjaa
