/- Words for memory that the walks of this seat share: a slice that reads as a list of elements of so many cells, a block known whole, an owned slice that reads as a list. Conditions: none. -/
import Derived.WalkKit
import Derived.WalkSpells
import Derived.WalkLawsBesides
import Derived.Deep.AppendLies
import Derived.Deep.Draws
import Derived.Deep.QuietTactic
import Derived.Deep.RegionHeld3
import Derived.Deep.LoopGhost
import Derived.Deep.DeepCutAuto
import Derived.BigQuiet
import Derived.Lib.Hide
import Derived.Laws.OwnMore
import Derived.Maps.AppendAt
namespace Go.Proofs.YtbbdiondhnmnaaaDoor
open Go.RowKit

/-! ### Blocks -/
def Blk (w : World) (g : Nat) (t : TypeId) (cs : Array Value) : Prop := w.heap[g]? = some (.cells cs t (0, 0))
section
variable {w w' : World} {g : Nat} {t : TypeId} {cs : Array Value}
theorem Blk.lt (h : Blk w g t cs) : g < w.heap.size := (Array.getElem?_eq_some_iff.1 h).1
theorem Blk.cell (h : Blk w g t cs) (i : Nat) : w.cell? ⟨g, i, none⟩ = cs[i]? := cell_of_row w g i cs t (0, 0) h
theorem Blk.frozen (h : Blk w g t cs) (i : Nat) : w.frozen? ⟨g, i, none⟩ = false := frozen_of_row w g i cs t h
theorem Blk.new (w : World) (t : TypeId) (cs : Array Value) : Blk (w.alloc (.cells cs t)) w.heap.size t cs := heap_alloc_new w _
theorem Blk.drew (h : Blk w g t cs) : Blk w.drew g t cs := h
theorem Blk.drewN (h : Blk w g t cs) (n : Nat) : Blk (w.drewN n) g t cs := h
theorem Blk.alloc (h : Blk w g t cs) (o : Obj) : Blk (w.alloc o) g t cs := (Below.heap_alloc w o g h.lt).trans h
theorem Blk.put (h : Blk w g t cs) (i : Nat) (u : Value) : Blk (w.setCell ⟨g, i, none⟩ u) g t (cs.setIfInBounds i u) := by
  unfold Blk at h ⊢
  simp [World.setCell, Array.getElem?_modify, h]
theorem Blk.far (h : Blk w g t cs) {p : Addr} (hp : g ≠ p.block) (u : Value) : Blk (w.setCell p u) g t cs := (Below.heap_setCell w p u g hp).trans h
theorem Blk.below {B : Nat} (h : Blk w g t cs) (hb : Below B w w') (hg : g < B) : Blk w' g t cs := (hb.block g hg).trans h
theorem Blk.grown {row : Option Nat} (h : Blk w g t cs) (hb : w.grownBy w' row) (hg : some g ≠ row) : Blk w' g t cs := (hb.block g h.lt hg).trans h
theorem Blk.differ {g' : Nat} {t' : TypeId} {cs' : Array Value} (h : Blk w g t cs) (h' : Blk w g' t' cs') (hne : t ≠ t') : g ≠ g' := by
  rintro rfl
  unfold Blk at h h'
  rw [h] at h'
  injection h' with h'
  injection h' with _ ht
  exact hne ht
end

/-! ### A slice that reads as a list: 'f a' are the cells of the element a, c of them -/
def Els {α : Type} (w : World) (B c : Nat) (f : α → List Value) (A : Option Addr) (l : List α) : Prop :=
  0 < l.length → ∃ b off, A = some ⟨b, off, none⟩ ∧ b < B ∧ ∀ k a, l[k]? = some a → ∀ j u, (f a)[j]? = some u → w.cell? ⟨b, off + k * c + j, none⟩ = some u
section
variable {α : Type} {w w' : World} {B B' c : Nat} {f : α → List Value} {A : Option Addr} {l : List α}
theorem Els.nil : Els w B c f A ([] : List α) := fun h => absurd h (by simp)
theorem Els.keep (h : Els w B c f A l) (hk : ∀ p : Addr, p.block < B → w'.cell? p = w.cell? p) : Els w' B c f A l := fun hn => by
  obtain ⟨b, off, e, hb, hc⟩ := h hn
  exact ⟨b, off, e, hb, fun k a ha j u hu => (hk _ hb).trans (hc k a ha j u hu)⟩
theorem Els.more (h : Els w B c f A l) (hB : B ≤ B') : Els w B' c f A l := fun hn => by
  obtain ⟨b, off, e, hb, hc⟩ := h hn
  exact ⟨b, off, e, by omega, hc⟩
theorem Els.below (h : Els w B c f A l) (hb : Below B w w') : Els w' B c f A l := h.keep fun _ hp => hb.cell hp
theorem Els.drew (h : Els w B c f A l) : Els w.drew B c f A l := h
theorem Els.drewN (h : Els w B c f A l) (k : Nat) : Els (w.drewN k) B c f A l := h
theorem Els.alloc (h : Els w B c f A l) (hB : B ≤ w.heap.size) (o : Obj) : Els (w.alloc o) B c f A l := h.below ((Below.refl _ _).alloc hB o)
theorem Els.grown (h : Els w B c f A l) {row : Option Nat} (hg : w.grownBy w' row) (hB : B ≤ w.heap.size) (hr : ∀ g, row = some g → B ≤ g) : Els w' B c f A l :=
  h.below ((Below.refl _ _).grown hg hB hr)
theorem Els.cut (h : Els w B c f A l) {k n cap : Nat} (hn : l.length = n) (hc : n ≤ cap) : Els w B c f (if cap = k then A else A.map (·.add (k * c))) (l.drop k) := fun hlt => by
  have hk : k < l.length := by simp at hlt; omega
  obtain ⟨b, off, rfl, hb, hcell⟩ := h (by omega)
  rw [if_neg (by omega)]
  refine ⟨b, off + k * c, ?_, hb, fun i a ha j u hu => ?_⟩
  · show some (Addr.add ⟨b, off, none⟩ (k * c)) = _
    unfold Addr.add
    split
    · rename_i h0; rw [h0]; rfl
    · rfl
  · have := hcell (k + i) a (by rw [← ha, List.getElem?_drop]) j u hu
    rw [show off + k * c + i * c + j = off + (k + i) * c + j from by rw [Nat.add_mul]; omega]
    exact this
theorem Els.pre (h : Els w B c f A l) (k : Nat) : Els w B c f A (l.take k) := fun hlt => by
  have hk : 0 < l.length := by
    have : (l.take k).length ≤ l.length := by simp; omega
    omega
  obtain ⟨b, off, rfl, hb, hcell⟩ := h hk
  refine ⟨b, off, rfl, hb, fun i a ha j u hu => hcell i a ?_ j u hu⟩
  rw [List.getElem?_take] at ha
  split at ha
  · exact ha
  · cases ha
/-- The element at k, by its cells: the address as the walk spells it. -/
theorem Els.at_ (h : Els w B c f A l) {k : Nat} (hk : k < l.length) : ∃ b off, A = some ⟨b, off, none⟩ ∧ b < B ∧ ∀ j u, (f l[k])[j]? = some u → w.cell? ⟨b, off + k * c + j, none⟩ = some u := by
  obtain ⟨b, off, e, hb, hc⟩ := h (by omega)
  exact ⟨b, off, e, hb, hc k _ (List.getElem?_eq_getElem hk)⟩
end
theorem Els.map_ {α β : Type} {w : World} {B c : Nat} {f : α → List Value} {f' : β → List Value} {A : Option Addr} {l : List α} (g : α → β) (h : Els w B c f A l) (e : ∀ a ∈ l, f a = f' (g a)) : Els w B c f' A (l.map g) := fun hlt => by
  obtain ⟨b, off, hA, hb, hc⟩ := h (by simpa using hlt)
  refine ⟨b, off, hA, hb, fun k a ha j u hu => ?_⟩
  rw [List.getElem?_map] at ha
  obtain ⟨a', ha', rfl⟩ := Option.map_eq_some_iff.1 ha
  exact hc k a' ha' j u (by rw [e a' (List.mem_of_getElem? ha')]; exact hu)
theorem Els.at1 {α : Type} {w : World} {B : Nat} {f : α → Value} {A : Option Addr} {l : List α} (h : Els w B 1 (fun a => [f a]) A l) {k : Nat} (hk : k < l.length) :
    ∃ b off, A = some ⟨b, off, none⟩ ∧ b < B ∧ w.cell? ⟨b, off + k, none⟩ = some (f l[k]) := by
  obtain ⟨b, off, e, hb, hc⟩ := h.at_ hk
  exact ⟨b, off, e, hb, by simpa using hc 0 _ rfl⟩
theorem Els.at2 {α : Type} {w : World} {B : Nat} {f g : α → Value} {A : Option Addr} {l : List α} (h : Els w B 2 (fun a => [f a, g a]) A l) {k : Nat} (hk : k < l.length) :
    ∃ b off, A = some ⟨b, off, none⟩ ∧ b < B ∧ w.cell? ⟨b, off + k * 2, none⟩ = some (f l[k]) ∧ w.cell? ⟨b, off + k * 2 + 1, none⟩ = some (g l[k]) := by
  obtain ⟨b, off, e, hb, hc⟩ := h.at_ hk
  exact ⟨b, off, e, hb, by simpa using hc 0 _ rfl, by simpa using hc 1 _ rfl⟩
theorem Els.at3 {α : Type} {w : World} {B : Nat} {f g p : α → Value} {A : Option Addr} {l : List α} (h : Els w B 3 (fun a => [f a, g a, p a]) A l) {k : Nat} (hk : k < l.length) :
    ∃ b off, A = some ⟨b, off, none⟩ ∧ b < B ∧ w.cell? ⟨b, off + k * 3, none⟩ = some (f l[k]) ∧ w.cell? ⟨b, off + k * 3 + 1, none⟩ = some (g l[k]) ∧ w.cell? ⟨b, off + k * 3 + 2, none⟩ = some (p l[k]) := by
  obtain ⟨b, off, e, hb, hc⟩ := h.at_ hk
  exact ⟨b, off, e, hb, by simpa using hc 0 _ rfl, by simpa using hc 1 _ rfl, by simpa using hc 2 _ rfl⟩
theorem Els.at4 {α : Type} {w : World} {B : Nat} {f g p q : α → Value} {A : Option Addr} {l : List α} (h : Els w B 4 (fun a => [f a, g a, p a, q a]) A l) {k : Nat} (hk : k < l.length) :
    ∃ b off, A = some ⟨b, off, none⟩ ∧ b < B ∧ w.cell? ⟨b, off + k * 4, none⟩ = some (f l[k]) ∧ w.cell? ⟨b, off + k * 4 + 1, none⟩ = some (g l[k]) ∧ w.cell? ⟨b, off + k * 4 + 2, none⟩ = some (p l[k]) ∧ w.cell? ⟨b, off + k * 4 + 3, none⟩ = some (q l[k]) := by
  obtain ⟨b, off, e, hb, hc⟩ := h.at_ hk
  exact ⟨b, off, e, hb, by simpa using hc 0 _ rfl, by simpa using hc 1 _ rfl, by simpa using hc 2 _ rfl, by simpa using hc 3 _ rfl⟩

theorem quietL {P : Program} {f : FuncId} {args : Array Value} {w : World} {n : Nat} {v : Value} (h : Calls P f args (w.drewN n) fun e w' => e = .returned v ∧ w.drewN n = w') : Calls P f args (w.drewN n) fun e w'' => e = .returned v ∧ ∃ m, w'' = w.drewN m :=
  h.mono fun _ _ ⟨he, hm⟩ => ⟨he, n, hm.symm⟩
theorem quietN {P : Program} {f : FuncId} {args : Array Value} {w : World} {n : Nat} {v : Value} (h : Calls P f args (w.drewN n) fun e w' => e = .returned v ∧ ∃ m, w' = (w.drewN n).drewN m) : Calls P f args (w.drewN n) fun e w'' => e = .returned v ∧ ∃ m, w'' = w.drewN m :=
  h.mono fun _ _ ⟨he, m, hm⟩ => ⟨he, n + m, by rw [hm, World.drewN_drewN]⟩
theorem quietAL {P : Program} {f : FuncId} {args : Array Value} {w : World} {a n : Nat} {v : Value} (h : Calls P f args (w.drewN (a + n)) fun e w' => e = .returned v ∧ w.drewN (a + n) = w') : Calls P f args (w.drewN (a + n)) fun e w'' => e = .returned v ∧ ∃ m, w'' = w.drewN (a + m) :=
  h.mono fun _ _ ⟨he, hm⟩ => ⟨he, n, hm.symm⟩
theorem quietAN {P : Program} {f : FuncId} {args : Array Value} {w : World} {a n : Nat} {v : Value} (h : Calls P f args (w.drewN (a + n)) fun e w' => e = .returned v ∧ ∃ m, w' = (w.drewN (a + n)).drewN m) : Calls P f args (w.drewN (a + n)) fun e w'' => e = .returned v ∧ ∃ m, w'' = w.drewN (a + m) :=
  h.mono fun _ _ ⟨he, m, hm⟩ => ⟨he, n + m, by rw [hm, World.drewN_drewN, Nat.add_assoc]⟩
/-- Function F has a body: a call of it enters it. -/
def Ent (P : Program) (F : FuncId) : Prop := ∀ (args : Array Value) (w : World), (callFunc F args).run P w = .ok (.enter F args) w
theorem ent_of {P : Program} {F : FuncId} {fn : Func} (hf : P.funcs[F]? = some fn) (hn : (fn.name == "runtime.NumGoroutine") = false) (hb : fn.body.isNone = false) : Ent P F := by
  intro args w
  have h1 : ¬ fn.name = "runtime.NumGoroutine" := by simpa using hn
  have h2 : ¬ fn.body = none := by intro h; rw [h] at hb; simp at hb
  simp [callFunc, hf, h1, h2]
theorem below_drewN {B : Nat} {a w : World} (h : Below B a w) (n : Nat) : Below B a (w.drewN n) := ⟨h.os, h.tape, h.output, h.size, h.block⟩
theorem below_of_drewN {B : Nat} {w w' : World} (h : ∃ n, w' = w.drewN n) : Below B w w' := by
  obtain ⟨n, rfl⟩ := h
  exact below_drewN (Below.refl _ _) n
theorem drewN_0 (w : World) : w = w.drewN 0 := rfl

/-! ### A search along a list -/
theorem any_take_succ {α : Type} (p : α → Bool) (l : List α) (k : Nat) (hk : k < l.length) : (l.take (k + 1)).any p = ((l.take k).any p || p l[k]) := by
  rw [List.take_succ_eq_append_getElem hk, List.any_append]
  simp
theorem any_of_get {α : Type} {p : α → Bool} {l : List α} {k : Nat} (hk : k < l.length) (h : p l[k] = true) : l.any p = true :=
  List.any_eq_true.2 ⟨_, List.getElem_mem hk, h⟩
theorem any_take_all {α : Type} {p : α → Bool} {l : List α} {k : Nat} (hk : l.length ≤ k) (h : (l.take k).any p = false) : l.any p = false := by
  rwa [List.take_of_length_le hk] at h
theorem any_range_succ (p : Nat → Bool) (k : Nat) : (List.range (k + 1)).any p = ((List.range k).any p || p k) := by
  rw [List.range_succ, List.any_append]
  simp
theorem any_range_of {p : Nat → Bool} {k n : Nat} (hk : k < n) (h : p k = true) : (List.range n).any p = true :=
  List.any_eq_true.2 ⟨k, List.mem_range.2 hk, h⟩
/-- The first place at which p holds; -1: there is none. -/
def idxF {α : Type} (p : α → Bool) (l : List α) : Int := if l.any p = true then (l.findIdx p : Int) else -1
theorem idxF_at {α : Type} {p : α → Bool} {l : List α} {k : Nat} (hk : k < l.length) (hno : (l.take k).any p = false) (h : p l[k] = true) : idxF p l = k := by
  unfold idxF
  rw [if_pos (any_of_get hk h)]
  congr 1
  rw [List.findIdx_eq hk]
  refine ⟨h, fun j hj => ?_⟩
  have := List.any_eq_false.1 hno (l[j]) (by
    rw [List.mem_take_iff_getElem]
    exact ⟨j, by omega, rfl⟩)
  simpa using this
theorem idxF_none {α : Type} {p : α → Bool} {l : List α} (hno : l.any p = false) : idxF p l = -1 := by
  unfold idxF
  rw [hno]
  rfl
theorem idxF_nonneg {α : Type} (p : α → Bool) (l : List α) : decide (0 ≤ idxF p l) = l.any p := by
  unfold idxF
  split
  · rename_i h; rw [h]; simp
  · rename_i h; simp at h; simpa using h
theorem getD_at {α : Type} (l : List α) (k : Nat) (h : k < l.length) (d : α) : l.getD k d = l[k] := by simp [List.getD, h]
theorem drop_at {α : Type} (l : List α) (k : Nat) (hk : k < l.length) : l.drop k = l[k] :: l.drop (k + 1) := List.drop_eq_getElem_cons hk
theorem ret_i64 {a b : Int} (h : a = b) : Ending.returned (.int .i64 a) = .returned (.int .i64 b) := by rw [h]
theorem ret_u32 {a b : Int} (h : a = b) : Ending.returned (.int .u32 a) = .returned (.int .u32 b) := by rw [h]
theorem ret_bool {a b : Bool} (h : a = b) : Ending.returned (.bool a) = .returned (.bool b) := by rw [h]
theorem size_alloc' (w : World) (o : Obj) : (w.alloc o).heap.size = w.heap.size + 1 := by simp
end Go.Proofs.YtbbdiondhnmnaaaDoor
