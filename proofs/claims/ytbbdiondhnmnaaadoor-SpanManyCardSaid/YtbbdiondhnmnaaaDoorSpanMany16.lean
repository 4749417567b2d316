/- A map in memory as a list of keys and values: look-up, the two steps of an assignment by an operator, a plain store. Conditions: the key's type bears KeyL. -/
import Derived.Test.YtbbdiondhnmnaaaDoorSpanMany1
import Derived.MapKept
import Derived.WideKeyEntry
namespace Go.Proofs.YtbbdiondhnmnaaaDoor
open Go.RowKit

section
variable {κ : Type} [DecidableEq κ]
def lookK : List (κ × Value) → κ → Nat → Option (Nat × Value)
  | [], _, _ => none
  | p :: L, a, i => if a = p.1 then some (i, p.2) else lookK L a (i + 1)
/-- The value at a key. -/
def getK : List (κ × Value) → κ → Option Value
  | [], _ => none
  | p :: L, a => if a = p.1 then some p.2 else getK L a
/-- The list with a value stored at a key. -/
def putK : List (κ × Value) → κ → Value → List (κ × Value)
  | [], a, v => [(a, v)]
  | p :: L, a, v => if a = p.1 then (p.1, v) :: L else p :: putK L a v
structure KeyL (P : Program) (t : TypeId) (kv : κ → Value) : Prop where
  chk : ∀ (b : Bool) (a : κ) (w : World), (Instr.checkKey b 10000 t (kv a)).run P w = .ok () w
  eqv : ∀ (a b : κ) (w : World), (Op.equal t (kv a) (kv b)).run P w = .ok (decide (a = b)) w
  desc : ∃ d, P.underlying t = some d ∧ ((∀ a b, Instr.sameNow d (kv a) (kv b) = none) ∨ (∀ a b, Instr.sameNow d (kv a) (kv b) = some (decide (a = b))))
  self : ∀ a, Instr.sameBits 10000 (kv a) (kv a) = true

theorem getK_look (L : List (κ × Value)) (a : κ) (i : Nat) : getK L a = (lookK L a i).map (·.2) := by
  induction L generalizing i with
  | nil => rfl
  | cons p L ih =>
    unfold getK lookK
    split
    · rfl
    · exact ih (i + 1)
theorem lookK_none {L : List (κ × Value)} {a : κ} {i : Nat} (h : lookK L a i = none) : ∀ p ∈ L, p.1 ≠ a := by
  induction L generalizing i with
  | nil => simp
  | cons p L ih =>
    unfold lookK at h
    split at h
    · cases h
    · rename_i hne
      intro q hq
      rcases List.mem_cons.1 hq with rfl | hq
      · exact fun e => hne e.symm
      · exact ih h q hq
theorem lookK_some {L : List (κ × Value)} {a : κ} {i j : Nat} {v : Value} (h : lookK L a i = some (j, v)) : ∃ m, j = i + m ∧ L[m]? = some (a, v) := by
  induction L generalizing i with
  | nil => cases h
  | cons p L ih =>
    unfold lookK at h
    split at h
    · rename_i e
      simp only [Option.some.injEq, Prod.mk.injEq] at h
      obtain ⟨rfl, rfl⟩ := h
      exact ⟨0, rfl, by simp [e]⟩
    · obtain ⟨m, rfl, hm⟩ := ih h
      exact ⟨m + 1, by omega, by simpa using hm⟩
theorem putK_none {L : List (κ × Value)} {a : κ} {v : Value} (h : ∀ p ∈ L, p.1 ≠ a) : putK L a v = L ++ [(a, v)] := by
  induction L with
  | nil => rfl
  | cons p L ih =>
    unfold putK
    rw [if_neg (fun e => h p (by simp) e.symm), ih (fun q hq => h q (by simp [hq]))]
    rfl
theorem putK_some {L : List (κ × Value)} {a : κ} {v u : Value} {m : Nat} (hn : (L.map Prod.fst).Nodup) (h : L[m]? = some (a, u)) : putK L a v = L.set m (a, v) := by
  induction L generalizing m with
  | nil => simp at h
  | cons p L ih =>
    cases m with
    | zero =>
      simp at h
      subst h
      simp [putK]
    | succ m =>
      simp at h
      have hne : ¬ a = p.1 := by
        rintro rfl
        simp only [List.map_cons, List.nodup_cons] at hn
        exact hn.1 (List.mem_map.2 ⟨_, List.mem_of_getElem? h, rfl⟩)
      unfold putK
      rw [if_neg hne, ih (by simp only [List.map_cons, List.nodup_cons] at hn; exact hn.2) h]
      rfl
theorem getK_put_same (L : List (κ × Value)) (a : κ) (v : Value) : getK (putK L a v) a = some v := by
  induction L with
  | nil => simp [putK, getK]
  | cons p L ih =>
    unfold putK
    split
    · rename_i e; simp [getK, e]
    · rename_i e; simp [getK, e, ih]
theorem getK_put_other (L : List (κ × Value)) {a b : κ} (v : Value) (h : b ≠ a) : getK (putK L a v) b = getK L b := by
  induction L with
  | nil => simp [putK, getK, h]
  | cons p L ih =>
    unfold putK
    split
    · rename_i e
      subst e
      simp [getK, h]
    · unfold getK
      rw [ih]

def Rep (kv : κ → Value) (es : Array MapEntry) (clock : Nat) (L : List (κ × Value)) : Prop :=
  es.toList.map (fun e => (e.key, e.val)) = L.map (fun p => (kv p.1, p.2)) ∧ (es.toList.map (·.born)).Nodup ∧ (∀ e ∈ es.toList, e.born < clock) ∧ (L.map Prod.fst).Nodup
def MapB (w : World) (r : Nat) (kv : κ → Value) (L : List (κ × Value)) : Prop := ∃ es clock, w.heap[r]? = some (.map es clock) ∧ Rep kv es clock L
def setO (w : World) (r : Nat) (o : Obj) : World := { w with heap := w.heap.setIfInBounds r o }

section
variable {P : Program} {t : TypeId} {kv : κ → Value}
theorem findNow_l {d : TypeDesc} (h : ∀ a b, Instr.sameNow d (kv a) (kv b) = some (decide (a = b))) (a : κ) : ∀ (L : List (κ × Value)) (es : List MapEntry) (i : Nat), es.map (fun e => (e.key, e.val)) = L.map (fun p => (kv p.1, p.2)) → Instr.findNow d (kv a) es i = some (lookK L a i)
  | [], es, i, he => by
    simp at he
    subst he
    rfl
  | p :: L, es, i, he => by
    cases es with
    | nil => simp at he
    | cons e es =>
      simp only [List.map_cons, List.cons.injEq, Prod.mk.injEq] at he
      obtain ⟨⟨h1, h2⟩, h3⟩ := he
      unfold Instr.findNow lookK
      rw [h1, h a p.1]
      by_cases hp : a = p.1
      · simp [hp, h2]
      · simp only [hp, decide_false, if_false]
        exact findNow_l h a L es (i + 1) h3
theorem findAsking_l (K : KeyL P t kv) (a : κ) (w : World) : ∀ (L : List (κ × Value)) (es : List MapEntry) (i : Nat), es.map (fun e => (e.key, e.val)) = L.map (fun p => (kv p.1, p.2)) → (Instr.findAsking t (kv a) es i).run P w = .ok (lookK L a i) w
  | [], es, i, he => by
    simp at he
    subst he
    rfl
  | p :: L, es, i, he => by
    cases es with
    | nil => simp at he
    | cons e es =>
      simp only [List.map_cons, List.cons.injEq, Prod.mk.injEq] at he
      obtain ⟨⟨h1, h2⟩, h3⟩ := he
      unfold Instr.findAsking lookK
      rw [h1]
      simp only [Sem.run_bind, K.eqv a p.1 w, Result.andThen]
      by_cases hp : a = p.1
      · simp [hp, h2]
      · simp only [hp, decide_false, if_false, Bool.false_eq_true]
        exact findAsking_l K a w L es (i + 1) h3
theorem findNow_nil {d : TypeDesc} (h : ∀ a b, Instr.sameNow d (kv a) (kv b) = none) (a : κ) (L : List (κ × Value)) (es : List MapEntry) (he : es.map (fun e => (e.key, e.val)) = L.map (fun p => (kv p.1, p.2))) :
    Instr.findNow d (kv a) es 0 = none ∨ Instr.findNow d (kv a) es 0 = some (lookK L a 0) := by
  cases L with
  | nil =>
    simp at he
    subst he
    exact .inr rfl
  | cons p L =>
    cases es with
    | nil => simp at he
    | cons e es =>
      simp only [List.map_cons, List.cons.injEq, Prod.mk.injEq] at he
      left
      unfold Instr.findNow
      rw [he.1.1, h]
theorem findKey_l (K : KeyL P t kv) (a : κ) (w : World) (L : List (κ × Value)) (es : List MapEntry) (he : es.map (fun e => (e.key, e.val)) = L.map (fun p => (kv p.1, p.2))) : (Instr.findKey t (kv a) es).run P w = .ok (lookK L a 0) w := by
  obtain ⟨d, hd, h⟩ := K.desc
  unfold Instr.findKey
  simp only [Sem.run_bind, run_underlying hd, Result.andThen]
  rcases h with h | h
  · rcases findNow_nil h a L es he with h1 | h1
    · rw [h1]; exact findAsking_l K a w L es 0 he
    · rw [h1]; rfl
  · rw [findNow_l h a L es 0 he]; rfl

theorem run_look {T e : TypeId} (K : KeyL P t kv) (ht : P.underlying T = some (.map t e)) {z : Value} (hz : ∀ u : World, (zeroValue e).run P u = .ok z u) {w : World} {r : Nat} {L : List (κ × Value)} (h : MapB w r kv L) (a : κ) (ok : Bool) :
    (Instr.lookup T (.map (some r)) (kv a) ok).run P w = .ok (if ok then .tuple #[(getK L a).getD z, .bool (getK L a).isSome] else (getK L a).getD z) w := by
  obtain ⟨es, clock, hb, h1, _⟩ := h
  have hf := findKey_l K a w L es.toList h1
  simp only [Instr.lookup, Sem.run_bind, run_underlying ht, Result.andThen, MapKept.run_getObj_map hb, Sem.run_pure, K.chk, hf]
  rw [getK_look L a 0]
  cases hl : lookK L a 0 with
  | none => simp [hz, Result.andThen]
  | some p => simp
theorem setO_grown (w : World) (r : Nat) (o : Obj) : w.grownBy (setO w r o) (some r) :=
  ⟨rfl, rfl, rfl, by simp [setO], fun k hk hne => by
    have : r ≠ k := fun e => hne (by rw [e])
    simp [setO, this]⟩
theorem rep_put_new {es : Array MapEntry} {clock : Nat} {L : List (κ × Value)} (h : Rep kv es clock L) {a : κ} {v : Value} (hn : ∀ p ∈ L, p.1 ≠ a) : Rep kv (es.push { key := kv a, val := v, born := clock }) (clock + 1) (putK L a v) := by
  obtain ⟨h1, h2, h3, h4⟩ := h
  rw [putK_none hn]
  refine ⟨by simp [h1], ?_, ?_, ?_⟩
  · simp only [Array.toList_push, List.map_append, List.map_cons, List.map_nil]
    refine List.nodup_append.2 ⟨h2, by simp, fun x hx c hc e1 => ?_⟩
    simp only [List.mem_singleton] at hc
    obtain ⟨y, hy, rfl⟩ := List.mem_map.1 hx
    have := h3 y hy
    omega
  · intro e he
    simp only [Array.toList_push, List.mem_append, List.mem_singleton] at he
    rcases he with he | rfl
    · have := h3 e he; omega
    · show clock < clock + 1; omega
  · rw [List.map_append]
    refine List.nodup_append.2 ⟨h4, by simp, fun x hx c hc e1 => ?_⟩
    simp only [List.map_cons, List.map_nil, List.mem_singleton] at hc
    obtain ⟨y, hy, rfl⟩ := List.mem_map.1 hx
    exact hn y hy (by rw [e1, hc])
omit [DecidableEq κ] in
theorem rep_at {es : Array MapEntry} {clock : Nat} {L : List (κ × Value)} (h : Rep kv es clock L) {m : Nat} {a : κ} {u : Value} (hm : L[m]? = some (a, u)) : ∃ e0, es.toList[m]? = some e0 ∧ e0.key = kv a ∧ e0.val = u := by
  have h1 := congrArg (fun l => l[m]?) h.1
  simp only [List.getElem?_map, hm, Option.map_some] at h1
  cases he : es.toList[m]? with
  | none => rw [he] at h1; cases h1
  | some e0 =>
    rw [he] at h1
    simp only [Option.map_some, Option.some.injEq, Prod.mk.injEq] at h1
    exact ⟨e0, rfl, h1.1, h1.2⟩
theorem rep_put_old {es : Array MapEntry} {clock : Nat} {L : List (κ × Value)} (h : Rep kv es clock L) {m : Nat} {a : κ} {u v : Value} (hm : L[m]? = some (a, u)) (g : MapEntry → MapEntry)
    (hg : ∀ e0, es.toList[m]? = some e0 → (g e0).key = kv a ∧ (g e0).val = v ∧ (g e0).born = e0.born) : Rep kv (es.modify m g) clock (putK L a v) := by
  obtain ⟨e0, he0, hk0, hv0⟩ := rep_at h hm
  obtain ⟨h1, h2, h3, h4⟩ := h
  obtain ⟨gk, gv, gb⟩ := hg e0 he0
  have hlt : m < es.toList.length := (List.getElem?_eq_some_iff.1 he0).1
  have hlt' : m < es.size := by simpa using hlt
  have hmL : m < L.length := (List.getElem?_eq_some_iff.1 hm).1
  have hgm : es[m] = e0 := by have := (List.getElem?_eq_some_iff.1 he0).2; simpa using this
  have hLm : L[m] = (a, u) := (List.getElem?_eq_some_iff.1 hm).2
  have hmod : (es.modify m g).toList = es.toList.set m (g e0) := by
    rw [Array.toList_modify]
    apply List.ext_getElem?
    intro i
    rw [List.getElem?_modify, List.getElem?_set]
    by_cases hi : m = i
    · subst hi; simp [hgm, hlt']
    · simp [hi]
  rw [putK_some h4 hm]
  refine ⟨?_, ?_, ?_, ?_⟩
  · rw [hmod, List.map_set, List.map_set, h1, gk, gv]
  · rw [hmod, List.map_set, gb]
    have : (es.toList.map (·.born)).set m e0.born = es.toList.map (·.born) := by
      apply List.ext_getElem?
      intro i
      rw [List.getElem?_set]
      by_cases hi : m = i
      · subst hi; simp [hgm, hlt']
      · simp [hi]
    rw [this]; exact h2
  · intro e he
    rw [hmod] at he
    rcases List.mem_or_eq_of_mem_set he with he | rfl
    · exact h3 e he
    · rw [gb]; exact h3 e0 (List.mem_of_getElem? he0)
  · rw [List.map_set]
    have : (L.map Prod.fst).set m a = L.map Prod.fst := by
      apply List.ext_getElem?
      intro i
      rw [List.getElem?_set]
      by_cases hi : m = i
      · subst hi
        simp [hLm, hmL]
      · simp [hi]
    rw [this]; exact h4
omit [DecidableEq κ] in
theorem MapB.set_ {w : World} {r : Nat} {L L' : List (κ × Value)} {es : Array MapEntry} {clock : Nat} (h : MapB w r kv L) (hr : Rep kv es clock L') : MapB (setO w r (.map es clock)) r kv L' := by
  obtain ⟨es0, c0, hb, _⟩ := h
  exact ⟨es, clock, (MapKept.heap_set hb).1, hr⟩
theorem run_stays (K : KeyL P t kv) (a : κ) (w : World) : (Instr.keyThatStays (kv a) (kv a)).run P w = .ok (kv a) w := by
  simp [Instr.keyThatStays, K.self a]
/-- 'm[a] = v'. -/
theorem run_put {T e : TypeId} (K : KeyL P t kv) (ht : P.underlying T = some (.map t e)) {w : World} {r : Nat} {L : List (κ × Value)} (h : MapB w r kv L) (a : κ) (v : Value) :
    ∃ w', (Instr.mapUpdate T (.map (some r)) (kv a) v).run P w = .ok () w' ∧ MapB w' r kv (putK L a v) ∧ w.grownBy w' (some r) ∧ w'.heap.size = w.heap.size := by
  have h' := h
  obtain ⟨es, clock, hb, hrep⟩ := h
  have hf := findKey_l K a w L es.toList hrep.1
  cases hl : lookK L a 0 with
  | none =>
    refine ⟨setO w r (.map (es.push { key := kv a, val := v, born := clock }) (clock + 1)), ?_, h'.set_ (rep_put_new hrep (lookK_none hl)), setO_grown _ _ _, by simp [setO]⟩
    simp [Instr.mapUpdate, run_underlying ht, MapKept.run_getObj_map hb, K.chk, hf, hl, MapKept.run_setObj_map _ hb, Result.andThen, setO]
  | some p =>
    obtain ⟨j, u⟩ := p
    obtain ⟨m, hj, hm⟩ := lookK_some hl
    obtain rfl : j = m := by omega
    obtain ⟨e0, he0, hk0, hv0⟩ := rep_at hrep hm
    have hej : es[j]? = some e0 := by simpa using he0
    refine ⟨setO w r (.map (es.modify j fun e' => { e' with key := kv a, val := v }) clock), ?_, h'.set_ (rep_put_old hrep hm _ (fun _ _ => ⟨rfl, rfl, rfl⟩)), setO_grown _ _ _, by simp [setO]⟩
    simp [Instr.mapUpdate, run_underlying ht, MapKept.run_getObj_map hb, K.chk, hf, hl, hej, hk0, run_stays K, MapKept.run_setObj_map _ hb, Result.andThen, setO]
/-- The two steps of 'm[a] op= ..': the entry is there (the zero, if it was not); then the store. -/
theorem run_entry {T e : TypeId} (K : KeyL P t kv) (ht : P.underlying T = some (.map t e)) {z : Value} (hz : ∀ u : World, (zeroValue e).run P u = .ok z u) {w : World} {r : Nat} {L : List (κ × Value)} (h : MapB w r kv L) (a : κ) :
    ∃ (w1 : World) (st : Nat) (L1 : List (κ × Value)), (Instr.mapEntry T (.map (some r)) (kv a)).run P w = .ok (.tuple #[(getK L a).getD z, .int .i64 st]) w1 ∧ MapB w1 r kv L1 ∧ (getK L1 a) = some ((getK L a).getD z) ∧ w.grownBy w1 (some r) ∧ w1.heap.size = w.heap.size ∧
      ∀ (w2 : World) (v : Value), w2.heap[r]? = w1.heap[r]? → ∃ w3, (Instr.entryStore T (.map (some r)) (.int .i64 st) v).run P w2 = .ok () w3 ∧ MapB w3 r kv (putK L a v) ∧ w2.grownBy w3 (some r) ∧ w3.heap.size = w2.heap.size := by
  have h' := h
  obtain ⟨es, clock, hb, hrep⟩ := h
  have hf := findKey_l K a w L es.toList hrep.1
  have fin : ∀ (es1 : Array MapEntry) (c1 : Nat) (m : Nat) (e0 : MapEntry) (L1 : List (κ × Value)) (u : Value), Rep kv es1 c1 L1 → es1.toList[m]? = some e0 → e0.key = kv a → L1[m]? = some (a, u) → (∀ v, putK L1 a v = putK L a v) →
      ∀ (w2 : World) (v : Value), w2.heap[r]? = some (.map es1 c1) → ∃ w3, (Instr.entryStore T (.map (some r)) (.int .i64 e0.born) v).run P w2 = .ok () w3 ∧ MapB w3 r kv (putK L a v) ∧ w2.grownBy w3 (some r) ∧ w3.heap.size = w2.heap.size := by
    intro es1 c1 m e0 L1 u hrep1 he0 hk0 hm hput w2 v hw2
    have hidx : es1.findIdx? (fun e => ((e.born : Nat) : Int) == ((e0.born : Nat) : Int)) = some m := by
      rw [WideElems.findIdx_arr]
      exact WideElems.findIdx_born hrep1.2.1 he0
    refine ⟨setO w2 r (.map (es1.modify m fun e => { e with val := v }) c1), ?_, ?_, setO_grown _ _ _, by simp [setO]⟩
    · simp [Instr.entryStore, MapKept.run_getObj_map hw2, asInt, asIntOf, hidx, MapKept.run_setObj_map _ hw2, Result.andThen, setO]
    · rw [← hput]
      refine MapB.set_ (L := L1) ⟨es1, c1, hw2, hrep1⟩ (rep_put_old hrep1 hm _ (fun e1 he1 => ?_))
      rw [he0] at he1
      cases he1
      exact ⟨hk0, rfl, rfl⟩
  cases hl : lookK L a 0 with
  | none =>
    have hno := lookK_none hl
    have hg : getK L a = none := by rw [getK_look L a 0, hl]; rfl
    have hrep1 := rep_put_new (v := z) hrep hno
    have hL1 : putK L a z = L ++ [(a, z)] := putK_none hno
    have hlen : L.length = es.toList.length := by have := congrArg List.length hrep.1; simpa using this.symm
    refine ⟨setO w r (.map (es.push { key := kv a, val := z, born := clock }) (clock + 1)), clock, putK L a z, ?_, h'.set_ hrep1, by rw [getK_put_same, hg]; rfl, setO_grown _ _ _, by simp [setO], fun w2 v hw2 => ?_⟩
    · rw [hg]
      simp [Instr.mapEntry, run_underlying ht, MapKept.run_getObj_map hb, K.chk, hf, hl, hz, MapKept.run_setObj_map _ hb, Result.andThen, setO, goInt]
    · refine fin _ _ L.length { key := kv a, val := z, born := clock } _ z hrep1 (by rw [hlen]; simp) rfl (by rw [hL1]; simp) (fun v => ?_) w2 v (hw2.trans (MapKept.heap_set hb).1)
      rw [hL1, putK_some (m := L.length) (u := z) (by rw [← hL1]; exact hrep1.2.2.2) (by simp), putK_none hno]
      simp
  | some p =>
    obtain ⟨j, u⟩ := p
    obtain ⟨m, hj, hm⟩ := lookK_some hl
    obtain rfl : j = m := by omega
    obtain ⟨e0, he0, hk0, hv0⟩ := rep_at hrep hm
    have hg : getK L a = some u := by rw [getK_look L a 0, hl]; rfl
    have hej : es[j]? = some e0 := by simpa using he0
    have hsame : es.modify j (fun e => { e with key := kv a }) = es := by
      apply Array.ext'
      rw [Array.toList_modify]
      apply List.ext_getElem?
      intro i
      rw [List.getElem?_modify]
      by_cases hi : j = i
      · subst hi; rw [he0]; simp [← hk0]
      · simp [hi]
    have hset : setO w r (.map es clock) = w := by
      have : w.heap.setIfInBounds r (.map es clock) = w.heap := by
        apply Array.ext_getElem?
        intro i
        rw [Array.getElem?_setIfInBounds]
        by_cases hi : r = i
        · subst hi
          have hlt : r < w.heap.size := (Array.getElem?_eq_some_iff.1 hb).1
          have hge : w.heap[r] = .map es clock := (Array.getElem?_eq_some_iff.1 hb).2
          simp [hlt, hge]
        · simp [hi]
      unfold setO
      rw [this]
    refine ⟨w, e0.born, L, ?_, h', by rw [hg]; rfl, World.grownBy.refl w _, rfl, fun w2 v hw2 => ?_⟩
    · rw [hg]
      have h2 := MapKept.run_setObj_map (P := P) (.map es clock) hb
      rw [show ({ w with heap := w.heap.setIfInBounds r (.map es clock) } : World) = w from hset] at h2
      simp [Instr.mapEntry, run_underlying ht, MapKept.run_getObj_map hb, K.chk, hf, hl, hej, hk0, run_stays K, hsame, h2, Result.andThen, goInt]
    · exact fin es clock j e0 L u hrep he0 hk0 hm (fun _ => rfl) w2 v (hw2.trans hb)
end

end
section
variable {κ : Type} {w w' : World} {r : Nat} {kv : κ → Value} {L : List (κ × Value)}
theorem MapB.lt (h : MapB w r kv L) : r < w.heap.size := by
  obtain ⟨_, _, hb, _⟩ := h
  exact (Array.getElem?_eq_some_iff.1 hb).1
theorem MapB.same (h : MapB w r kv L) (he : w'.heap[r]? = w.heap[r]?) : MapB w' r kv L := by
  obtain ⟨es, c, hb, hr⟩ := h
  exact ⟨es, c, he.trans hb, hr⟩
theorem MapB.below {B : Nat} (h : MapB w r kv L) (hb : Below B w w') (hr : r < B) : MapB w' r kv L := h.same (hb.block r hr)
theorem MapB.grown {row : Option Nat} (h : MapB w r kv L) (hg : w.grownBy w' row) (hr : some r ≠ row) : MapB w' r kv L := h.same (hg.block r h.lt hr)
theorem MapB.alloc (h : MapB w r kv L) (o : Obj) : MapB (w.alloc o) r kv L := h.same (Below.heap_alloc w o r h.lt)
theorem MapB.drew (h : MapB w r kv L) : MapB w.drew r kv L := h
theorem MapB.drewN (h : MapB w r kv L) (n : Nat) : MapB (w.drewN n) r kv L := h
theorem MapB.setCell (h : MapB w r kv L) (p : Addr) (u : Value) : MapB (w.setCell p u) r kv L := by
  obtain ⟨es, c, hb, hr⟩ := h
  refine ⟨es, c, ?_, hr⟩
  by_cases hp : r = p.block
  · subst hp
    simp only [World.setCell, Array.getElem?_modify, if_true, hb, Option.map_some]
  · exact (Below.heap_setCell w p u r hp).trans hb
theorem MapB.made (w : World) : MapB (w.alloc (.map #[] 0)) w.heap.size kv ([] : List (κ × Value)) := ⟨#[], 0, heap_alloc_new w _, rfl, by simp, by simp, by simp⟩
theorem MapB.ne_blk {g : Nat} {t : TypeId} {cs : Array Value} (h : MapB w r kv L) (hg : Blk w g t cs) : r ≠ g := by
  rintro rfl
  obtain ⟨es, c, hb, _⟩ := h
  unfold Blk at hg
  rw [hb] at hg
  cases hg
end
end Go.Proofs.YtbbdiondhnmnaaaDoor
