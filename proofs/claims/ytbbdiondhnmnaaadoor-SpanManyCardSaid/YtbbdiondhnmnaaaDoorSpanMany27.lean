/- A region that draws its order, walked once: what only reads is taken first, what makes memory comes up alone. In a round and out of one. Conditions: what is read stays in a class of worlds. -/
import Derived.Test.YtbbdiondhnmnaaaDoorSpanMany5
import Derived.RangeFuncNested
import Derived.RangeFuncBound
import Derived.RangeFuncCalls
import Derived.RangeFuncLeaves
import Derived.Shelf.Abstract
import Derived.Shelf.RegionOpen
import Derived.OwnWalkIn
import Derived.TacticsInMore
import Derived.LoopNIn
import Derived.LoopIn
import Derived.Deep.Quiet
namespace Go.Proofs.YtbbdiondhnmnaaaDoor
open Go.RowKit Go.Shelf

section
variable {P : Program} {md : Region.Mode} {ops : Array Oper} {z : Nat} {C : World → Prop} {Q : Act → World → Prop}

def noP : Exit → Act → World → Prop := fun _ _ _ => False
def opC (P : Program) (ops : Array Oper) (i : Nat) (K : Act → World → Prop) (a : Act) (w : World) : Prop :=
  ∃ o, ops[i]? = some o ∧ ((Region.wanted o (yielded ops a.tmps) = true ∧ o.wp P a w K noP) ∨ (Region.wanted o (yielded ops a.tmps) = false ∧ K (a.put o.dst undef) w))
/-- All orders, the class C kept till the operation z has come up. -/
def anyC (P : Program) (md : Region.Mode) (ops : Array Oper) (z : Nat) (C : World → Prop) (Q : Act → World → Prop) : Nat → Array Bool → Act → World → Prop
  | 0, listed, a, w => (listed.getD z false = true ∨ C w) ∧ Region.ready md ops listed = [] ∧ Q a w
  | fuel + 1, listed, a, w => (listed.getD z false = true ∨ C w) ∧ (Region.ready md ops listed = [] → Q a w) ∧ ∀ i ∈ Region.ready md ops listed, opC P ops i (anyC P md ops z C Q fuel (listed.setIfInBounds i true)) a w
theorem anyC.cls {fuel : Nat} {listed : Array Bool} {a : Act} {w : World} (h : anyC P md ops z C Q fuel listed a w) : listed.getD z false = true ∨ C w := by
  cases fuel <;> exact h.1

/-- In each world of the class an operation leaves v, and the world as it was. -/
def ReadsC (P : Program) (ops : Array Oper) (C : World → Prop) (o : Oper) (v : Value) (a : Act) : Prop :=
  (Region.wanted o (yielded ops a.tmps) = true ∧ ∀ w, C w → (execOp a.eval o).run P w = .ok (.value v) w) ∨ (Region.wanted o (yielded ops a.tmps) = false ∧ v = undef)
theorem ReadsC.opC {i : Nat} {o : Oper} {v : Value} {a : Act} {w : World} {K : Act → World → Prop} (hi : ops[i]? = some o) (hy : ReadsC P ops C o v a) (hw : C w) (h : K (a.put o.dst v) w) : opC P ops i K a w := by
  refine ⟨o, hi, ?_⟩
  rcases hy with ⟨h1, h2⟩ | ⟨h1, rfl⟩
  · refine .inl ⟨h1, ?_⟩
    unfold Oper.wp
    rw [h2 w hw]
    exact h
  · exact .inr ⟨h1, h⟩
theorem ReadsC.of_same {o : Oper} {v : Value} {a a' : Act} (hy : ReadsC P ops C o v a) (he : execOp a'.eval o = execOp a.eval o) (hw : Region.wanted o (yielded ops a'.tmps) = Region.wanted o (yielded ops a.tmps)) : ReadsC P ops C o v a' := by
  unfold ReadsC at *
  rw [he, hw]
  exact hy
theorem wp_imp {o : Oper} {a a' : Act} {w : World} {K K' : Act → World → Prop} (he : execOp a'.eval o = execOp a.eval o) (hd : a'.defers = a.defers) (hk : ∀ (u : Value) (w' : World), K (a.put o.dst u) w' → K' (a'.put o.dst u) w')
    (hdf : ∀ (d : Deferred) (w' : World), K ({ a with defers := d :: a.defers }.put o.dst undef) w' → K' ({ a' with defers := d :: a'.defers }.put o.dst undef) w')
    (h : o.wp P a w K noP) : o.wp P a' w K' noP := by
  unfold Oper.wp at *
  rw [he]
  generalize (execOp a.eval o).run P w = r at *
  cases r with
  | ok n w' =>
    cases n with
    | value v => exact hk _ _ h
    | skip => exact hk _ _ h
    | «defer» d => exact hdf _ _ h
    | enter f args =>
      refine Calls.mono h ?_
      intro e w'' he
      cases e with
      | returned v => exact hk _ _ he
      | panicked c => exact he
      | outgrown => obtain ⟨_, _, hf⟩ := he; exact hf.elim
    | row r args => exact Rows.mono h fun v w'' he => hk _ _ he
    | _ => exact h
  | halt x w' => cases x <;> first | exact h | exact (h : False).elim
theorem opC_put {i j : Nat} {oi oj : Oper} {v : Value} (hj : ops[j]? = some oj) (hap : oi.apart ops oj = true) (hsi : ∀ cs b, oi.op ≠ .select cs b) (hsj : ∀ cs b, oj.op ≠ .select cs b)
    {K : Act → World → Prop} {a : Act} {w : World} (hy : ReadsC P ops C oi v a) (h : opC P ops j K (a.put oi.dst v) w) : opC P ops j (fun a' w' => ReadsC P ops C oi v a' ∧ K (a'.put oi.dst v) w') a w := by
  obtain ⟨h1, h2, h3⟩ := Oper.apart_spec hap
  have keep : ∀ (a : Act), ReadsC P ops C oi v a → ∀ u, ReadsC P ops C oi v (a.put oj.dst u) := fun a hy u =>
    hy.of_same (execOp_put oi hsi a oj.dst u h3) (wanted_put oi a oj.dst u h3)
  obtain ⟨o, ho, hor⟩ := h
  rw [hj] at ho
  cases ho
  refine ⟨oj, hj, ?_⟩
  rw [wanted_put oj a oi.dst v h1] at hor
  rcases hor with ⟨hw, hp⟩ | ⟨hw, hp⟩
  · refine .inl ⟨hw, wp_imp (a := a.put oi.dst v) (a' := a) (execOp_put oj hsj a oi.dst v h1).symm (by cases oi.dst <;> rfl) (fun u w' hk => ⟨keep a hy u, by rw [← Act.put_comm a v u h2]; exact hk⟩) (fun d w' hk => ?_) hp⟩
    have hy' : ReadsC P ops C oi v { a with defers := d :: a.defers } := hy.of_same (by congr 1) rfl
    refine ⟨keep _ hy' undef, ?_⟩
    rw [← Act.put_comm _ v undef h2]
    have e : ({ a.put oi.dst v with defers := d :: (a.put oi.dst v).defers } : Act) = ({ a with defers := d :: a.defers } : Act).put oi.dst v := by cases oi.dst <;> rfl
    rw [← e]
    exact hk
  · exact .inr ⟨hw, keep a hy _, by rw [← Act.put_comm a v undef h2]; exact hp⟩
theorem opC_mono {i : Nat} {K K' : Act → World → Prop} {a : Act} {w : World} (hk : ∀ a w, K a w → K' a w) (h : opC P ops i K a w) : opC P ops i K' a w := by
  obtain ⟨o, ho, h⟩ := h
  refine ⟨o, ho, ?_⟩
  rcases h with ⟨h1, h2⟩ | ⟨h1, h2⟩
  · exact .inl ⟨h1, wp_imp rfl rfl (fun u w' => hk _ _) (fun d w' => hk _ _) h2⟩
  · exact .inr ⟨h1, hk _ _ h2⟩
/-- What has come up is closed under what it waits for. -/
def Cl (md : Region.Mode) (ops : Array Oper) (listed : Array Bool) : Prop := ∀ j o, ops[j]? = some o → listed.getD j false = true → ∀ e ∈ o.after, Region.binds md e = true → listed.getD e.on false = true
theorem Cl.next {listed : Array Bool} {i : Nat} (h : Cl md ops listed) (hr : i ∈ Region.ready md ops listed) : Cl md ops (listed.setIfInBounds i true) := by
  obtain ⟨_, oi, hi, hall⟩ := mem_ready.1 hr
  intro j o ho hj e he hb
  refine getD_set_true ?_
  by_cases hij : i = j
  · subst hij
    rw [hi] at ho
    cases ho
    exact hall e he hb
  · rw [getD_set_ne false hij] at hj
    exact h j o ho hj e he hb
/-- Must i come up ahead of j? -/
def anc (md : Region.Mode) (ops : Array Oper) (i : Nat) : Nat → Nat → Bool
  | 0, _ => false
  | k + 1, j => match ops[j]? with
    | none => false
    | some o => o.after.any fun e => Region.binds md e && (e.on == i || anc md ops i k e.on)
theorem anc_listed {listed : Array Bool} {i : Nat} (hc : Cl md ops listed) : ∀ (k j : Nat) (o : Oper), ops[j]? = some o → (∀ e ∈ o.after, Region.binds md e = true → listed.getD e.on false = true) → anc md ops i k j = true → listed.getD i false = true
  | 0, _, _, _, _, h => by cases h
  | k + 1, j, o, ho, hall, h => by
    unfold anc at h
    rw [ho] at h
    obtain ⟨e, he, hb⟩ := Array.any_eq_true'.1 h
    rw [Bool.and_eq_true, Bool.or_eq_true, beq_iff_eq] at hb
    obtain ⟨h1, h2 | h2⟩ := hb
    · rw [← h2]; exact hall e he h1
    · cases hq : ops[e.on]? with
      | none =>
        cases k with
        | zero => cases h2
        | succ k => unfold anc at h2; rw [hq] at h2; cases h2
      | some q => exact anc_listed hc k e.on q hq (fun e' he' hb' => hc e.on q hq (hall e he h1) e' he' hb') h2
theorem anyC_first {i : Nat} {oi : Oper} {v : Value} (hi : ops[i]? = some oi) (hiz : i ≠ z) (hz : ops[z]? = none ∨ anc md ops i ops.size z = true) (hsel : ∀ (j : Nat) (o : Oper) cs b, ops[j]? = some o → o.op ≠ .select cs b) :
    ∀ (fuel : Nat) (listed : Array Bool) (a : Act) (w : World), Cl md ops listed → listed.getD z false = false →
      (∀ j oj, ops[j]? = some oj → j ≠ i → listed.getD j true = false → (∀ e ∈ oj.after, Region.binds md e = true → e.on ≠ i) → oi.apart ops oj = true) →
      i ∈ Region.ready md ops listed → ReadsC P ops C oi v a → anyC P md ops z C Q fuel (listed.setIfInBounds i true) (a.put oi.dst v) w → anyC P md ops z C Q (fuel + 1) listed a w := by
  intro fuel
  induction fuel with
  | zero =>
    intro listed a w hcl hzl _ hr hy H
    have hC : C w := by
      rcases H.1 with h | h
      · rw [show (listed.setIfInBounds i true).getD z false = listed.getD z false from getD_set_ne false hiz, hzl] at h; cases h
      · exact h
    refine ⟨.inr hC, fun h => (by rw [h] at hr; cases hr), fun j hj => ?_⟩
    by_cases hji : j = i
    · subst hji; exact hy.opC hi hC H
    · have := ready_mono hj hji
      rw [H.2.1] at this
      cases this
  | succ fuel ih =>
    intro listed a w hcl hzl hfree hr hy H
    have hC : C w := by
      rcases H.1 with h | h
      · rw [show (listed.setIfInBounds i true).getD z false = listed.getD z false from getD_set_ne false hiz, hzl] at h; cases h
      · exact h
    refine ⟨.inr hC, fun h => (by rw [h] at hr; cases hr), fun j hj => ?_⟩
    by_cases hji : j = i
    · subst hji; exact hy.opC hi hC H
    · have h1 := H.2.2 j (ready_mono hj hji)
      obtain ⟨hjun, oj, hoj, hall⟩ := mem_ready.1 hj
      have hnot : ∀ e ∈ oj.after, Region.binds md e = true → e.on ≠ i := fun e he hb heq => by
        have h1 := hall e he hb
        have h0 := (mem_ready.1 hr).1
        rw [heq] at h1
        rcases Nat.lt_or_ge i listed.size with h' | h'
        · simp [h'] at h0 h1; rw [h0] at h1; cases h1
        · simp [Array.getElem?_eq_none h'] at h1
      have hjz : j ≠ z := fun e => by
        subst e
        rcases hz with hz | hz
        · rw [hz] at hoj; cases hoj
        · have h1 := anc_listed hcl _ j oj hoj hall hz
          have h0 := (mem_ready.1 hr).1
          rcases Nat.lt_or_ge i listed.size with h' | h'
          · simp [h'] at h0 h1; rw [h0] at h1; cases h1
          · simp [Array.getElem?_eq_none h'] at h1
      have h2 := opC_put (i := i) hoj (hfree j oj hoj hji hjun hnot) (fun cs b => hsel i oi cs b hi) (fun cs b => hsel j oj cs b hoj) hy h1
      have hfree' : ∀ k ok, ops[k]? = some ok → k ≠ i → (listed.setIfInBounds j true).getD k true = false →
          (∀ e ∈ ok.after, Region.binds md e = true → e.on ≠ i) → oi.apart ops ok = true := fun k ok hk hki hun hno => by
        refine hfree k ok hk hki ?_ hno
        by_cases hjk : j = k
        · subst hjk; exact hjun
        · rw [getD_set_ne true hjk] at hun; exact hun
      refine opC_mono (fun a' w' h3 => ih (listed.setIfInBounds j true) a' w' (hcl.next hj) (by rw [getD_set_ne false hjz]; exact hzl) hfree' (ready_mono hr (Ne.symm hji)) h3.1 ?_) h2
      rw [Array.setIfInBounds_comm _ _ hji]
      exact h3.2

def lateB (md : Region.Mode) (ops : Array Oper) (z i : Nat) : Bool := !(i == z) && (ops[z]?.isNone || anc md ops i ops.size z)
theorem lateB_spec {i : Nat} (h : lateB md ops z i = true) : i ≠ z ∧ (ops[z]? = none ∨ anc md ops i ops.size z = true) := by
  unfold lateB at h
  rw [Bool.and_eq_true, Bool.or_eq_true] at h
  exact ⟨by simpa using h.1, h.2.imp (fun h => by simpa using h) id⟩
def closedB (md : Region.Mode) (ops : Array Oper) (listed : Array Bool) : Bool := (List.range ops.size).all fun j => !(listed.getD j false) || match ops[j]? with
  | none => true
  | some o => o.after.all fun e => !Region.binds md e || listed.getD e.on false
theorem closedB_spec {listed : Array Bool} (h : closedB md ops listed = true) : Cl md ops listed := by
  intro j o ho hj e he hb
  unfold closedB at h
  have h1 := List.all_eq_true.1 h j (List.mem_range.2 (Array.getElem?_eq_some_iff.1 ho).1)
  rw [hj, ho] at h1
  simp only [Bool.not_true, Bool.false_or] at h1
  have h2 := Array.all_eq_true_iff_forall_mem.1 h1 e he
  rw [hb] at h2
  simpa using h2
theorem anyC_take {i : Nat} {oi : Oper} {v : Value} {fuel : Nat} {listed : Array Bool} {a : Act} {w : World} (hcl : Cl md ops listed) (hi : ops[i]? = some oi) (hz : lateB md ops z i = true) (hs : Region.noSelect ops = true) (hzl : listed.getD z false = false) (hf : Region.free md ops listed i = true) (hr : (Region.ready md ops listed).contains i = true)
    (hy : ReadsC P ops C oi v a) (h : anyC P md ops z C Q fuel (listed.setIfInBounds i true) (a.put oi.dst v) w) : anyC P md ops z C Q (fuel + 1) listed a w :=
  anyC_first hi (lateB_spec hz).1 (lateB_spec hz).2 (Region.noSelect_spec hs) fuel listed a w hcl hzl (Region.free_spec hi hf) (by simpa using hr) hy h
/-- Operations that only read, one behind the other. -/
def readC (P : Program) (ops : Array Oper) (C : World → Prop) (K : Act → Prop) : List Oper → Act → Prop
  | [], a => K a
  | o :: l, a => ∃ v, ReadsC P ops C o v a ∧ readC P ops C K l (a.put o.dst v)
theorem readC_nil {K : Act → Prop} {a : Act} (h : K a) : readC P ops C K [] a := h
theorem readC_step {K : Act → Prop} {l : List Oper} {o : Oper} {v : Value} {a : Act} (hw : Region.wanted o (yielded ops a.tmps) = true) (hy : ∀ w, C w → (execOp a.eval o).run P w = .ok (.value v) w) (h : readC P ops C K l (a.put o.dst v)) : readC P ops C K (o :: l) a :=
  ⟨v, .inl ⟨hw, hy⟩, h⟩
theorem readC_skip {K : Act → Prop} {l : List Oper} {o : Oper} {a : Act} (hw : Region.wanted o (yielded ops a.tmps) = false) (h : readC P ops C K l (a.put o.dst undef)) : readC P ops C K (o :: l) a :=
  ⟨undef, .inr ⟨hw, rfl⟩, h⟩
/-- May these come up first, in this order? -/
def orderB (md : Region.Mode) (ops : Array Oper) (z : Nat) : List Nat → Array Bool → Bool
  | [], _ => true
  | i :: is, listed => lateB md ops z i && !(listed.getD z false) && Region.free md ops listed i && (Region.ready md ops listed).contains i && orderB md ops z is (listed.setIfInBounds i true)
def listAll : List Nat → Array Bool → Array Bool
  | [], listed => listed
  | i :: is, listed => listAll is (listed.setIfInBounds i true)
theorem anyC_reads' (hs : Region.noSelect ops = true) : ∀ (is : List Nat) (l : List Oper) (_ : (is.filterMap fun i => ops[i]?) = l) (fuel : Nat) (listed : Array Bool) (a : Act) (w : World), Cl md ops listed → orderB md ops z is listed = true → readC P ops C (fun a' => anyC P md ops z C Q fuel (listAll is listed) a' w) l a → anyC P md ops z C Q (fuel + is.length) listed a w
  | [], l, hl, _, _, _, _, _, _, h => by
    subst hl
    exact h
  | i :: is, l, hl, fuel, listed, a, w, hcl, hB, h => by
    unfold orderB at hB
    simp only [Bool.and_eq_true, Bool.not_eq_true'] at hB
    obtain ⟨⟨⟨⟨h1, h2⟩, h3⟩, h4⟩, h5⟩ := hB
    obtain ⟨o, hi⟩ : ∃ o, ops[i]? = some o := by
      unfold Region.free at h3
      cases ho : ops[i]? with
      | none => rw [ho] at h3; cases h3
      | some o => exact ⟨o, rfl⟩
    rw [List.filterMap_cons_some hi] at hl
    subst hl
    obtain ⟨v, hy, hk⟩ := h
    exact anyC_take hcl hi h1 hs h2 h3 h4 hy (anyC_reads' hs is _ rfl fuel _ _ w (hcl.next (by simpa using h4)) h5 hk)
theorem anyC_reads (hs : Region.noSelect ops = true) (is : List Nat) (l : List Oper) (hl : (is.filterMap fun i => ops[i]?) = l) (fuel : Nat) (listed : Array Bool) (a : Act) (w : World) (hB : (closedB md ops listed && orderB md ops z is listed) = true) (h : readC P ops C (fun a' => anyC P md ops z C Q fuel (listAll is listed) a' w) l a) : anyC P md ops z C Q (fuel + is.length) listed a w := by
  rw [Bool.and_eq_true] at hB
  exact anyC_reads' hs is l hl fuel listed a w (closedB_spec hB.1) hB.2 h
theorem anyC_one {i : Nat} {o : Oper} {fuel : Nat} {listed : Array Bool} {a : Act} {w : World} (hr : Region.ready md ops listed = [i]) (hi : ops[i]? = some o) (hw : Region.wanted o (yielded ops a.tmps) = true) (hC : listed.getD z false = true ∨ C w)
    (h : o.wp P a w (anyC P md ops z C Q fuel (listed.setIfInBounds i true)) noP) : anyC P md ops z C Q (fuel + 1) listed a w :=
  ⟨hC, fun h0 => (by rw [hr] at h0; cases h0), fun j hj => by
    rw [hr, List.mem_singleton] at hj
    subst hj
    exact ⟨o, hi, .inl ⟨hw, h⟩⟩⟩
theorem anyC_end {listed : Array Bool} {a : Act} {w : World} (hr : Region.ready md ops listed = []) (hC : listed.getD z false = true ∨ C w) (h : Q a w) : anyC P md ops z C Q 0 listed a w := ⟨hC, hr, h⟩

theorem wp_noP {o : Oper} {a : Act} {w : World} {K : Act → World → Prop} {Q' : Exit → Act → World → Prop} (h : o.wp P a w K noP) : o.wp P a w K Q' := by
  unfold Oper.wp at *
  generalize (execOp a.eval o).run P w = r at *
  cases r with
  | ok n w' =>
    cases n with
    | enter f args =>
      refine Calls.mono h ?_
      intro e w'' he
      cases e with
      | returned v => exact he
      | panicked c => exact (he : False).elim
      | outgrown => obtain ⟨_, _, hf⟩ := he; exact hf.elim
    | _ => exact h
  | halt x w' => cases x <;> first | exact h | exact (h : False).elim
theorem anyC_any {Q' : Exit → Act → World → Prop} (hQ : ∀ a w, Q a w → Q' .normal a w) : ∀ (fuel : Nat) (listed : Array Bool) (a : Act) (w : World), anyC P md ops z C Q fuel listed a w → wpAny P md ops Q' fuel listed a w
  | 0, _, _, _, h => ⟨h.2.1, hQ _ _ h.2.2⟩
  | fuel + 1, listed, a, w, h => ⟨fun h0 => hQ _ _ (h.2.1 h0), fun i hi => by
    obtain ⟨o, ho, hor⟩ := h.2.2 i hi
    unfold wpOp
    rw [ho]
    simp only
    rcases hor with ⟨hw, hp⟩ | ⟨hw, hp⟩
    · rw [if_pos hw]
      exact .inl (wp_noP (wp_imp (a := a) (a' := a) rfl rfl (fun u w' => anyC_any hQ fuel _ _ _) (fun d w' => anyC_any hQ fuel _ _ _) hp))
    · rw [if_neg (by rw [hw]; simp)]
      exact anyC_any hQ fuel _ _ _ hp⟩
theorem region_plain {id : Nat} {Q' : Exit → Act → World → Prop} {a : Act} {w : World} (z N : Nat) (C : World → Prop) (hm : P.follows .mixedOrders = true) (hN : ops.size = N) (h : anyC P .any ops z C (fun a w => Q' .normal a w) N (Array.replicate N false) a w.drew) : (Code.region id ops true).wp P Q' a w := by
  subst hN
  exact wp_region_any hm (anyC_any (fun _ _ h => h) _ _ _ _ h)
theorem region_wide {id n : Nat} {Q' : Exit → Act → World → Prop} {a : Act} {w : World} (z N : Nat) (C : World → Prop) (hm : P.follows .mixedOrders = true) (hN : ops.size = N) (h : anyC P .any ops z C (fun a w => Q' .normal a w) N (Array.replicate N false) a w.drew) : (Code.region id ops true).wpIn Fence.wide n P Q' a w :=
  wpIn_wide.2 (region_plain z N C hm hN h)
def noDefer (ops : Array Oper) : Bool := ops.all fun o => match o.op with | .defer _ => false | _ => true
theorem noDefer_spec (h : noDefer ops = true) (j : Nat) (o : Oper) (ho : ops[j]? = some o) (c : Call) : o.op ≠ .defer c := by
  intro heq
  have := Array.all_eq_true_iff_forall_mem.1 h o (Array.mem_of_getElem? ho)
  simp [heq] at this
theorem wpIn_noP {o : Oper} {a : Act} {w : World} {l n : Nat} {K : Act → World → Prop} {Q' : Exit → Act → World → Prop} (hnd : ∀ c, o.op ≠ .defer c) (h : o.wp P a w K noP) : o.wpIn (Fence.wide.inRound l) n P a w K Q' := by
  unfold Oper.wp at h
  unfold Oper.wpIn
  refine ⟨fun _ _ => trivial, ?_⟩
  rw [Oper.semAt_eq _ _ _ hnd]
  generalize (execOp a.eval o).run P w = r at *
  cases r with
  | ok k w' =>
    cases k with
    | enter f args =>
      refine ⟨fun h => (by cases h), CallsIn.inRound l (callsIn_wide.2 (Calls.mono h ?_))⟩
      intro e w'' he
      cases e with
      | returned v => exact he
      | panicked c => exact (he : False).elim
      | outgrown => obtain ⟨_, _, hf⟩ := he; exact hf.elim
    | row r args => exact ⟨fun h => (by cases h), fun c cs _ => let ⟨v, w', r, s⟩ := h c cs; ⟨v, w', r, stepsIn_wide.2 s⟩⟩
    | value v => exact h
    | skip => exact h
    | «defer» d => exact h
    | _ => exact (h : False).elim
  | halt x w' => cases x <;> first | exact (h : False).elim | exact h
theorem anyC_in {l n : Nat} (hnd : noDefer ops = true) {Q' : Exit → Act → World → Prop} (hQ : ∀ a w, Q a w → Q' .normal a w) : ∀ (fuel : Nat) (listed : Array Bool) (a : Act) (w : World), anyC P md ops z C Q fuel listed a w → wpAnyIn (Fence.wide.inRound l) n P md ops Q' fuel listed a w
  | 0, _, _, _, h => ⟨h.2.1, hQ _ _ h.2.2⟩
  | fuel + 1, listed, a, w, h => ⟨fun h0 => hQ _ _ (h.2.1 h0), fun i hi => by
    obtain ⟨o, ho, hor⟩ := h.2.2 i hi
    unfold wpOpIn
    rw [ho]
    simp only
    rcases hor with ⟨hw, hp⟩ | ⟨hw, hp⟩
    · rw [if_pos hw]
      exact wpIn_noP (fun c => noDefer_spec hnd i o ho c) (wp_imp (a := a) (a' := a) rfl rfl (fun u w' => anyC_in hnd hQ fuel _ _ _) (fun d w' => anyC_in hnd hQ fuel _ _ _) hp)
    · rw [if_neg (by rw [hw]; simp)]
      exact ⟨fun _ _ => trivial, anyC_in hnd hQ fuel _ _ _ hp⟩⟩
theorem region_round {l n id : Nat} {Q' : Exit → Act → World → Prop} {a : Act} {w : World} (z N : Nat) (C : World → Prop) (hm : P.follows .mixedOrders = true) (hN : ops.size = N) (hnd : noDefer ops = true) (h : anyC P .any ops z C (fun a w => Q' .normal a w) N (Array.replicate N false) a w.drew) : (Code.region id ops true).wpIn (Fence.wide.inRound l) n P Q' a w := by
  subst hN
  exact wpIn_region_any hm (anyC_in hnd (fun _ _ h => h) _ _ _ _ h)
end
end Go.Proofs.YtbbdiondhnmnaaaDoor
