/- Words for memory that the walks of this seat share: a slice that reads as a list of elements of so many cells, a block known whole, an owned slice that reads as a list. Conditions: none. -/
import Derived.WalkKit
import Derived.WalkSpells
import Derived.WalkLawsBesides
import Derived.Deep.AppendLies
import Derived.Deep.Draws
import Derived.Deep.QuietTactic
import Derived.Deep.RegionHeld3
import Derived.Deep.LoopGhost
import Derived.Deep.DeepCutAuto
import Derived.BigQuiet
import Derived.Lib.Hide
import Derived.Laws.OwnMore
import Derived.Maps.AppendAt
import Derived.ProofKit
import Derived.OpenShut
import Derived.ShutString
import Derived.ChangeOld
import Derived.Below
import Derived.Deep.Slices
import Derived.Deep.Fields
import Derived.Lib.SmallJoins
import Derived.MapKept
import Derived.WideKeyEntry
namespace Go.Proofs.Ytdinknpagklkjaa
open Go.RowKit

/-! ### Blocks -/
def Blk (w : World) (g : Nat) (t : TypeId) (cs : Array Value) : Prop := w.heap[g]? = some (.cells cs t (0, 0))
section
variable {w w' : World} {g : Nat} {t : TypeId} {cs : Array Value}
theorem Blk.lt (h : Blk w g t cs) : g < w.heap.size := (Array.getElem?_eq_some_iff.1 h).1
theorem Blk.cell (h : Blk w g t cs) (i : Nat) : w.cell? ⟨g, i, none⟩ = cs[i]? := cell_of_row w g i cs t (0, 0) h
theorem Blk.frozen (h : Blk w g t cs) (i : Nat) : w.frozen? ⟨g, i, none⟩ = false := frozen_of_row w g i cs t h
theorem Blk.new (w : World) (t : TypeId) (cs : Array Value) : Blk (w.alloc (.cells cs t)) w.heap.size t cs := heap_alloc_new w _
theorem Blk.drew (h : Blk w g t cs) : Blk w.drew g t cs := h
theorem Blk.drewN (h : Blk w g t cs) (n : Nat) : Blk (w.drewN n) g t cs := h
theorem Blk.alloc (h : Blk w g t cs) (o : Obj) : Blk (w.alloc o) g t cs := (Below.heap_alloc w o g h.lt).trans h
theorem Blk.put (h : Blk w g t cs) (i : Nat) (u : Value) : Blk (w.setCell ⟨g, i, none⟩ u) g t (cs.setIfInBounds i u) := by
  unfold Blk at h ⊢
  simp [World.setCell, Array.getElem?_modify, h]
theorem Blk.far (h : Blk w g t cs) {p : Addr} (hp : g ≠ p.block) (u : Value) : Blk (w.setCell p u) g t cs := (Below.heap_setCell w p u g hp).trans h
theorem Blk.below {B : Nat} (h : Blk w g t cs) (hb : Below B w w') (hg : g < B) : Blk w' g t cs := (hb.block g hg).trans h
theorem Blk.grown {row : Option Nat} (h : Blk w g t cs) (hb : w.grownBy w' row) (hg : some g ≠ row) : Blk w' g t cs := (hb.block g h.lt hg).trans h
theorem Blk.differ {g' : Nat} {t' : TypeId} {cs' : Array Value} (h : Blk w g t cs) (h' : Blk w g' t' cs') (hne : t ≠ t') : g ≠ g' := by
  rintro rfl
  unfold Blk at h h'
  rw [h] at h'
  injection h' with h'
  injection h' with _ ht
  exact hne ht
end

/-! ### A slice that reads as a list: 'f a' are the cells of the element a, c of them -/
def Els {α : Type} (w : World) (B c : Nat) (f : α → List Value) (A : Option Addr) (l : List α) : Prop :=
  0 < l.length → ∃ b off, A = some ⟨b, off, none⟩ ∧ b < B ∧ ∀ k a, l[k]? = some a → ∀ j u, (f a)[j]? = some u → w.cell? ⟨b, off + k * c + j, none⟩ = some u
section
variable {α : Type} {w w' : World} {B B' c : Nat} {f : α → List Value} {A : Option Addr} {l : List α}
theorem Els.nil : Els w B c f A ([] : List α) := fun h => absurd h (by simp)
theorem Els.keep (h : Els w B c f A l) (hk : ∀ p : Addr, p.block < B → w'.cell? p = w.cell? p) : Els w' B c f A l := fun hn => by
  obtain ⟨b, off, e, hb, hc⟩ := h hn
  exact ⟨b, off, e, hb, fun k a ha j u hu => (hk _ hb).trans (hc k a ha j u hu)⟩
theorem Els.more (h : Els w B c f A l) (hB : B ≤ B') : Els w B' c f A l := fun hn => by
  obtain ⟨b, off, e, hb, hc⟩ := h hn
  exact ⟨b, off, e, by omega, hc⟩
theorem Els.below (h : Els w B c f A l) (hb : Below B w w') : Els w' B c f A l := h.keep fun _ hp => hb.cell hp
theorem Els.drew (h : Els w B c f A l) : Els w.drew B c f A l := h
theorem Els.drewN (h : Els w B c f A l) (k : Nat) : Els (w.drewN k) B c f A l := h
theorem Els.alloc (h : Els w B c f A l) (hB : B ≤ w.heap.size) (o : Obj) : Els (w.alloc o) B c f A l := h.below ((Below.refl _ _).alloc hB o)
theorem Els.grown (h : Els w B c f A l) {row : Option Nat} (hg : w.grownBy w' row) (hB : B ≤ w.heap.size) (hr : ∀ g, row = some g → B ≤ g) : Els w' B c f A l :=
  h.below ((Below.refl _ _).grown hg hB hr)
theorem Els.cut (h : Els w B c f A l) {k n cap : Nat} (hn : l.length = n) (hc : n ≤ cap) : Els w B c f (if cap = k then A else A.map (·.add (k * c))) (l.drop k) := fun hlt => by
  have hk : k < l.length := by simp at hlt; omega
  obtain ⟨b, off, rfl, hb, hcell⟩ := h (by omega)
  rw [if_neg (by omega)]
  refine ⟨b, off + k * c, ?_, hb, fun i a ha j u hu => ?_⟩
  · show some (Addr.add ⟨b, off, none⟩ (k * c)) = _
    unfold Addr.add
    split
    · rename_i h0; rw [h0]; rfl
    · rfl
  · have := hcell (k + i) a (by rw [← ha, List.getElem?_drop]) j u hu
    rw [show off + k * c + i * c + j = off + (k + i) * c + j from by rw [Nat.add_mul]; omega]
    exact this
theorem Els.pre (h : Els w B c f A l) (k : Nat) : Els w B c f A (l.take k) := fun hlt => by
  have hk : 0 < l.length := by
    have : (l.take k).length ≤ l.length := by simp; omega
    omega
  obtain ⟨b, off, rfl, hb, hcell⟩ := h hk
  refine ⟨b, off, rfl, hb, fun i a ha j u hu => hcell i a ?_ j u hu⟩
  rw [List.getElem?_take] at ha
  split at ha
  · exact ha
  · cases ha
/-- The element at k, by its cells: the address as the walk spells it. -/
theorem Els.at_ (h : Els w B c f A l) {k : Nat} (hk : k < l.length) : ∃ b off, A = some ⟨b, off, none⟩ ∧ b < B ∧ ∀ j u, (f l[k])[j]? = some u → w.cell? ⟨b, off + k * c + j, none⟩ = some u := by
  obtain ⟨b, off, e, hb, hc⟩ := h (by omega)
  exact ⟨b, off, e, hb, hc k _ (List.getElem?_eq_getElem hk)⟩
end
theorem Els.map_ {α β : Type} {w : World} {B c : Nat} {f : α → List Value} {f' : β → List Value} {A : Option Addr} {l : List α} (g : α → β) (h : Els w B c f A l) (e : ∀ a ∈ l, f a = f' (g a)) : Els w B c f' A (l.map g) := fun hlt => by
  obtain ⟨b, off, hA, hb, hc⟩ := h (by simpa using hlt)
  refine ⟨b, off, hA, hb, fun k a ha j u hu => ?_⟩
  rw [List.getElem?_map] at ha
  obtain ⟨a', ha', rfl⟩ := Option.map_eq_some_iff.1 ha
  exact hc k a' ha' j u (by rw [e a' (List.mem_of_getElem? ha')]; exact hu)
theorem Els.at1 {α : Type} {w : World} {B : Nat} {f : α → Value} {A : Option Addr} {l : List α} (h : Els w B 1 (fun a => [f a]) A l) {k : Nat} (hk : k < l.length) :
    ∃ b off, A = some ⟨b, off, none⟩ ∧ b < B ∧ w.cell? ⟨b, off + k, none⟩ = some (f l[k]) := by
  obtain ⟨b, off, e, hb, hc⟩ := h.at_ hk
  exact ⟨b, off, e, hb, by simpa using hc 0 _ rfl⟩
theorem Els.at2 {α : Type} {w : World} {B : Nat} {f g : α → Value} {A : Option Addr} {l : List α} (h : Els w B 2 (fun a => [f a, g a]) A l) {k : Nat} (hk : k < l.length) :
    ∃ b off, A = some ⟨b, off, none⟩ ∧ b < B ∧ w.cell? ⟨b, off + k * 2, none⟩ = some (f l[k]) ∧ w.cell? ⟨b, off + k * 2 + 1, none⟩ = some (g l[k]) := by
  obtain ⟨b, off, e, hb, hc⟩ := h.at_ hk
  exact ⟨b, off, e, hb, by simpa using hc 0 _ rfl, by simpa using hc 1 _ rfl⟩
theorem Els.at3 {α : Type} {w : World} {B : Nat} {f g p : α → Value} {A : Option Addr} {l : List α} (h : Els w B 3 (fun a => [f a, g a, p a]) A l) {k : Nat} (hk : k < l.length) :
    ∃ b off, A = some ⟨b, off, none⟩ ∧ b < B ∧ w.cell? ⟨b, off + k * 3, none⟩ = some (f l[k]) ∧ w.cell? ⟨b, off + k * 3 + 1, none⟩ = some (g l[k]) ∧ w.cell? ⟨b, off + k * 3 + 2, none⟩ = some (p l[k]) := by
  obtain ⟨b, off, e, hb, hc⟩ := h.at_ hk
  exact ⟨b, off, e, hb, by simpa using hc 0 _ rfl, by simpa using hc 1 _ rfl, by simpa using hc 2 _ rfl⟩
theorem Els.at4 {α : Type} {w : World} {B : Nat} {f g p q : α → Value} {A : Option Addr} {l : List α} (h : Els w B 4 (fun a => [f a, g a, p a, q a]) A l) {k : Nat} (hk : k < l.length) :
    ∃ b off, A = some ⟨b, off, none⟩ ∧ b < B ∧ w.cell? ⟨b, off + k * 4, none⟩ = some (f l[k]) ∧ w.cell? ⟨b, off + k * 4 + 1, none⟩ = some (g l[k]) ∧ w.cell? ⟨b, off + k * 4 + 2, none⟩ = some (p l[k]) ∧ w.cell? ⟨b, off + k * 4 + 3, none⟩ = some (q l[k]) := by
  obtain ⟨b, off, e, hb, hc⟩ := h.at_ hk
  exact ⟨b, off, e, hb, by simpa using hc 0 _ rfl, by simpa using hc 1 _ rfl, by simpa using hc 2 _ rfl, by simpa using hc 3 _ rfl⟩

theorem quietL {P : Program} {f : FuncId} {args : Array Value} {w : World} {n : Nat} {v : Value} (h : Calls P f args (w.drewN n) fun e w' => e = .returned v ∧ w.drewN n = w') : Calls P f args (w.drewN n) fun e w'' => e = .returned v ∧ ∃ m, w'' = w.drewN m :=
  h.mono fun _ _ ⟨he, hm⟩ => ⟨he, n, hm.symm⟩
theorem quietN {P : Program} {f : FuncId} {args : Array Value} {w : World} {n : Nat} {v : Value} (h : Calls P f args (w.drewN n) fun e w' => e = .returned v ∧ ∃ m, w' = (w.drewN n).drewN m) : Calls P f args (w.drewN n) fun e w'' => e = .returned v ∧ ∃ m, w'' = w.drewN m :=
  h.mono fun _ _ ⟨he, m, hm⟩ => ⟨he, n + m, by rw [hm, World.drewN_drewN]⟩
theorem quietAL {P : Program} {f : FuncId} {args : Array Value} {w : World} {a n : Nat} {v : Value} (h : Calls P f args (w.drewN (a + n)) fun e w' => e = .returned v ∧ w.drewN (a + n) = w') : Calls P f args (w.drewN (a + n)) fun e w'' => e = .returned v ∧ ∃ m, w'' = w.drewN (a + m) :=
  h.mono fun _ _ ⟨he, hm⟩ => ⟨he, n, hm.symm⟩
theorem quietAN {P : Program} {f : FuncId} {args : Array Value} {w : World} {a n : Nat} {v : Value} (h : Calls P f args (w.drewN (a + n)) fun e w' => e = .returned v ∧ ∃ m, w' = (w.drewN (a + n)).drewN m) : Calls P f args (w.drewN (a + n)) fun e w'' => e = .returned v ∧ ∃ m, w'' = w.drewN (a + m) :=
  h.mono fun _ _ ⟨he, m, hm⟩ => ⟨he, n + m, by rw [hm, World.drewN_drewN, Nat.add_assoc]⟩
/-- Function F has a body: a call of it enters it. -/
def Ent (P : Program) (F : FuncId) : Prop := ∀ (args : Array Value) (w : World), (callFunc F args).run P w = .ok (.enter F args) w
theorem ent_of {P : Program} {F : FuncId} {fn : Func} (hf : P.funcs[F]? = some fn) (hn : (fn.name == "runtime.NumGoroutine") = false) (hb : fn.body.isNone = false) : Ent P F := by
  intro args w
  have h1 : ¬ fn.name = "runtime.NumGoroutine" := by simpa using hn
  have h2 : ¬ fn.body = none := by intro h; rw [h] at hb; simp at hb
  simp [callFunc, hf, h1, h2]
theorem below_drewN {B : Nat} {a w : World} (h : Below B a w) (n : Nat) : Below B a (w.drewN n) := ⟨h.os, h.tape, h.output, h.size, h.block⟩
theorem below_of_drewN {B : Nat} {w w' : World} (h : ∃ n, w' = w.drewN n) : Below B w w' := by
  obtain ⟨n, rfl⟩ := h
  exact below_drewN (Below.refl _ _) n
theorem drewN_0 (w : World) : w = w.drewN 0 := rfl

/-! ### A search along a list -/
theorem any_take_succ {α : Type} (p : α → Bool) (l : List α) (k : Nat) (hk : k < l.length) : (l.take (k + 1)).any p = ((l.take k).any p || p l[k]) := by
  rw [List.take_succ_eq_append_getElem hk, List.any_append]
  simp
theorem any_of_get {α : Type} {p : α → Bool} {l : List α} {k : Nat} (hk : k < l.length) (h : p l[k] = true) : l.any p = true :=
  List.any_eq_true.2 ⟨_, List.getElem_mem hk, h⟩
theorem any_take_all {α : Type} {p : α → Bool} {l : List α} {k : Nat} (hk : l.length ≤ k) (h : (l.take k).any p = false) : l.any p = false := by
  rwa [List.take_of_length_le hk] at h
theorem any_range_succ (p : Nat → Bool) (k : Nat) : (List.range (k + 1)).any p = ((List.range k).any p || p k) := by
  rw [List.range_succ, List.any_append]
  simp
theorem any_range_of {p : Nat → Bool} {k n : Nat} (hk : k < n) (h : p k = true) : (List.range n).any p = true :=
  List.any_eq_true.2 ⟨k, List.mem_range.2 hk, h⟩
/-- The first place at which p holds; -1: there is none. -/
def idxF {α : Type} (p : α → Bool) (l : List α) : Int := if l.any p = true then (l.findIdx p : Int) else -1
theorem idxF_at {α : Type} {p : α → Bool} {l : List α} {k : Nat} (hk : k < l.length) (hno : (l.take k).any p = false) (h : p l[k] = true) : idxF p l = k := by
  unfold idxF
  rw [if_pos (any_of_get hk h)]
  congr 1
  rw [List.findIdx_eq hk]
  refine ⟨h, fun j hj => ?_⟩
  have := List.any_eq_false.1 hno (l[j]) (by
    rw [List.mem_take_iff_getElem]
    exact ⟨j, by omega, rfl⟩)
  simpa using this
theorem idxF_none {α : Type} {p : α → Bool} {l : List α} (hno : l.any p = false) : idxF p l = -1 := by
  unfold idxF
  rw [hno]
  rfl
theorem idxF_nonneg {α : Type} (p : α → Bool) (l : List α) : decide (0 ≤ idxF p l) = l.any p := by
  unfold idxF
  split
  · rename_i h; rw [h]; simp
  · rename_i h; simp at h; simpa using h
theorem getD_at {α : Type} (l : List α) (k : Nat) (h : k < l.length) (d : α) : l.getD k d = l[k] := by simp [List.getD, h]
theorem drop_at {α : Type} (l : List α) (k : Nat) (hk : k < l.length) : l.drop k = l[k] :: l.drop (k + 1) := List.drop_eq_getElem_cons hk
theorem ret_i64 {a b : Int} (h : a = b) : Ending.returned (.int .i64 a) = .returned (.int .i64 b) := by rw [h]
theorem ret_u32 {a b : Int} (h : a = b) : Ending.returned (.int .u32 a) = .returned (.int .u32 b) := by rw [h]
theorem ret_bool {a b : Bool} (h : a = b) : Ending.returned (.bool a) = .returned (.bool b) := by rw [h]
theorem size_alloc' (w : World) (o : Obj) : (w.alloc o).heap.size = w.heap.size + 1 := by simp
end Go.Proofs.Ytdinknpagklkjaa

/- How the arguments of the laws are opened: a slice as a list of elements, whatever the element's shape; structs by value. Conditions: none. -/
namespace Go.Proofs.Ytdinknpagklkjaa
open Go.ChangeShapes Go.WideShapes Go.ChangeAt Go.RowKit Go.Deep Go.Joins

def OkI (n : Int) : Prop := -9223372036854775808 ≤ n ∧ n ≤ 9223372036854775807
def OkU (n : Int) : Prop := 0 ≤ n ∧ n ≤ 4294967295
theorem okI_of {n : Int} (h : (Lit.int .i64 n).wf = true) : OkI n := by
  have := bounds_i64 h
  unfold OkI; omega
theorem okU_of {n : Int} (h : (Lit.int .u32 n).wf = true) : OkU n := by
  have := bounds_u32 h
  unfold OkU; omega

section
variable {H : Type} {enc : TypeId × Value → H} {P : Program} {w : World} {base : Nat} {spare : Nat → Bool} {held : Bool}
/-- An element of type e reads as some a of which Good holds; its cells are 'f a'. -/
def Opens {α : Type} (enc : TypeId × Value → H) (P : Program) (w : World) (base : Nat) (spare : Nat → Bool) (held : Bool) (e : TypeId) (f : α → List Value) (Good : α → Prop) : Prop :=
  ∀ (fuel : Nat) (cs : List Value) (y : DataW H × List MemPlace), DataW.trod enc P w base spare held fuel e cs = some y → ∃ a, cs = f a ∧ Good a

/-- A slice value with its elements. -/
structure Sls (α : Type) where
  A : Option Addr
  c : Nat
  l : List α
abbrev Sls.val {α : Type} (s : Sls α) : Value := .slice s.A s.l.length s.c
def Sls.Good {α : Type} (w : World) (B c : Nat) (f : α → List Value) (G : α → Prop) (s : Sls α) : Prop :=
  s.l.length ≤ maxLen ∧ s.l.length ≤ s.c ∧ Els w B c f s.A s.l ∧ ∀ a ∈ s.l, G a

theorem opens_i64 {e : TypeId} (he : P.underlying e = some (.int .i64)) : Opens enc P w base spare held e (fun n : Int => [.int .i64 n]) OkI := by
  intro fuel cs y h
  obtain ⟨n, rfl, _, wf⟩ := DataW.trod_int he h
  exact ⟨n, rfl, okI_of wf⟩
theorem opens_u32 {e : TypeId} (he : P.underlying e = some (.int .u32)) : Opens enc P w base spare held e (fun n : Int => [.int .u32 n]) OkU := by
  intro fuel cs y h
  obtain ⟨n, rfl, _, wf⟩ := DataW.trod_int he h
  exact ⟨n, rfl, okU_of wf⟩

theorem add_at (b off i : Nat) : (Addr.add ⟨b, off, none⟩ i) = ⟨b, off + i, none⟩ := by
  unfold Addr.add
  split
  · rename_i h; rw [h]; rfl
  · rfl

theorem opens_slice {α : Type} {t e c : Nat} {f : α → List Value} {G : α → Prop} (ht : P.underlying t = some (.slice e)) (hC : P.cellsOf e = c) (hc : 0 < c)
    (he : Opens enc P w base spare held e f G) :
    Opens enc P w base spare held t (fun s : Sls α => [s.val]) (Sls.Good w w.heap.size c f G) := by
  intro fuel cs x h
  rcases open_slice ht h with ⟨rfl, _⟩ | ⟨a, len, cap, m, n, D, Pl, rfl, _, hl, hm, hmm, hx, hi⟩
  · exact ⟨⟨none, 0, []⟩, rfl, by simp [maxLen], by simp, Els.nil, by simp⟩
  · have hlm : len ≤ m := by rw [hmm]; split <;> omega
    have key : ∀ i, i < len → ∃ y, w.cells? base (a.add (i * c)) c = some (f y) ∧ G y := fun i hilt => by
      obtain ⟨cs', hcs, htr⟩ := hi i (by omega)
      rw [hC] at hcs
      obtain ⟨y, rfl, hy⟩ := he _ _ _ htr
      exact ⟨y, hcs, hy⟩
    obtain ⟨l, hll, hlk⟩ : ∃ l : List α, l.length = len ∧ ∀ (i : Nat) (y : α), l[i]? = some y → w.cells? base (a.add (i * c)) c = some (f y) ∧ G y := by
      clear hi hmm hlm hl hm h hx
      induction len with
      | zero => exact ⟨[], rfl, by simp⟩
      | succ k ih =>
        obtain ⟨l, h1, h2⟩ := ih (fun i hi => key i (by omega))
        obtain ⟨y, hy⟩ := key k (by omega)
        refine ⟨l ++ [y], by simp [h1], fun i z hz => ?_⟩
        rw [List.getElem?_append] at hz
        split at hz
        · exact h2 i z hz
        · rename_i hlt
          have : i = k := by
            have := List.getElem?_eq_some_iff.1 hz
            obtain ⟨hh, _⟩ := this
            simp at hh; omega
          subst this
          rw [h1] at hz
          simp at hz
          subst hz
          exact hy
    refine ⟨⟨some a, cap, l⟩, by simp [Sls.val, hll], ?_, ?_, ?_, ?_⟩
    · simp only [hll]; omega
    · simp only [hll]; omega
    · intro hpos
      have hpos' : 0 < l.length := hpos
      obtain ⟨y0, hy0⟩ : ∃ y, l[0]? = some y := ⟨l[0], List.getElem?_eq_getElem hpos'⟩
      obtain ⟨hc0, _⟩ := hlk 0 y0 hy0
      obtain ⟨_, hcl0, hat0⟩ := World.cells?_some hc0
      have hz : w.cell? a = (f y0)[0]? := by
        have := hat0 0 hc
        simpa [Addr.add] using this
      have hsome : ∃ v, w.cell? a = some v := by
        rw [hz]
        exact ⟨(f y0)[0]'(by omega), List.getElem?_eq_getElem (by omega)⟩
      obtain ⟨v0, hv0⟩ := hsome
      obtain ⟨b, off, spot⟩ := a
      have hspot : spot = none := by simpa using World.cell?_spot hv0
      subst hspot
      refine ⟨b, off, rfl, block_lt_of_cell hv0, fun k y hy j u hu => ?_⟩
      obtain ⟨hck, _⟩ := hlk k y hy
      obtain ⟨_, hclk, hatk⟩ := World.cells?_some hck
      have hj : j < c := by
        have := (List.getElem?_eq_some_iff.1 hu).1
        omega
      have := hatk j hj
      rw [add_at, add_at] at this
      rw [this, hu]
    · intro y hy
      obtain ⟨i, hi'⟩ := List.mem_iff_getElem?.1 hy
      exact (hlk i y hi').2

theorem opens_struct2 {α β : Type} {e : TypeId} {f0 f1 : Field} {g0 : α → Value} {g1 : β → Value} {G0 : α → Prop} {G1 : β → Prop} (hs : P.underlying e = some (.struct #[f0, f1]))
    (hone : oneCellFields P #[f0, f1] = true) (hC : P.cellsOf e = 2) (h0 : Opens enc P w base spare held f0.type (fun a => [g0 a]) G0) (h1 : Opens enc P w base spare held f1.type (fun a => [g1 a]) G1) :
    Opens enc P w base spare held e (fun p : α × β => [g0 p.1, g1 p.2]) (fun p => G0 p.1 ∧ G1 p.2) := by
  intro fuel cs x h
  obtain ⟨ys, n', _, _, hlen, hyl, hf⟩ := DataW.trod_struct hs h
  rw [hC] at hlen
  match cs, hlen with
  | [c0, c1], _ =>
    obtain ⟨o0, k0⟩ := hone_of hone 0 f0 rfl
    obtain ⟨o1, k1⟩ := hone_of hone 1 f1 rfl
    match ys, hyl with
    | [y0, y1], _ =>
      obtain ⟨a, ha, ga⟩ := h0 _ _ _ (by simpa [o0, k0] using hf 0 f0 rfl)
      obtain ⟨b, hb, gb⟩ := h1 _ _ _ (by simpa [o1, k1] using hf 1 f1 rfl)
      exact ⟨(a, b), by simp_all, ga, gb⟩
theorem opens_struct3 {α β γ : Type} {e : TypeId} {f0 f1 f2 : Field} {g0 : α → Value} {g1 : β → Value} {g2 : γ → Value} {G0 : α → Prop} {G1 : β → Prop} {G2 : γ → Prop} (hs : P.underlying e = some (.struct #[f0, f1, f2]))
    (hone : oneCellFields P #[f0, f1, f2] = true) (hC : P.cellsOf e = 3) (h0 : Opens enc P w base spare held f0.type (fun a => [g0 a]) G0) (h1 : Opens enc P w base spare held f1.type (fun a => [g1 a]) G1) (h2 : Opens enc P w base spare held f2.type (fun a => [g2 a]) G2) :
    Opens enc P w base spare held e (fun p : α × β × γ => [g0 p.1, g1 p.2.1, g2 p.2.2]) (fun p => G0 p.1 ∧ G1 p.2.1 ∧ G2 p.2.2) := by
  intro fuel cs x h
  obtain ⟨ys, n', _, _, hlen, hyl, hf⟩ := DataW.trod_struct hs h
  rw [hC] at hlen
  match cs, hlen with
  | [c0, c1, c2], _ =>
    obtain ⟨o0, k0⟩ := hone_of hone 0 f0 rfl
    obtain ⟨o1, k1⟩ := hone_of hone 1 f1 rfl
    obtain ⟨o2, k2⟩ := hone_of hone 2 f2 rfl
    match ys, hyl with
    | [y0, y1, y2], _ =>
      obtain ⟨a, ha, ga⟩ := h0 _ _ _ (by simpa [o0, k0] using hf 0 f0 rfl)
      obtain ⟨b, hb, gb⟩ := h1 _ _ _ (by simpa [o1, k1] using hf 1 f1 rfl)
      obtain ⟨d, hd, gd⟩ := h2 _ _ _ (by simpa [o2, k2] using hf 2 f2 rfl)
      exact ⟨(a, b, d), by simp_all, ga, gb, gd⟩
theorem opens_struct4 {α β γ δ : Type} {e : TypeId} {f0 f1 f2 f3 : Field} {g0 : α → Value} {g1 : β → Value} {g2 : γ → Value} {g3 : δ → Value} {G0 : α → Prop} {G1 : β → Prop} {G2 : γ → Prop} {G3 : δ → Prop} (hs : P.underlying e = some (.struct #[f0, f1, f2, f3]))
    (hone : oneCellFields P #[f0, f1, f2, f3] = true) (hC : P.cellsOf e = 4) (h0 : Opens enc P w base spare held f0.type (fun a => [g0 a]) G0) (h1 : Opens enc P w base spare held f1.type (fun a => [g1 a]) G1) (h2 : Opens enc P w base spare held f2.type (fun a => [g2 a]) G2) (h3 : Opens enc P w base spare held f3.type (fun a => [g3 a]) G3) :
    Opens enc P w base spare held e (fun p : α × β × γ × δ => [g0 p.1, g1 p.2.1, g2 p.2.2.1, g3 p.2.2.2]) (fun p => G0 p.1 ∧ G1 p.2.1 ∧ G2 p.2.2.1 ∧ G3 p.2.2.2) := by
  intro fuel cs x h
  obtain ⟨ys, n', _, _, hlen, hyl, hf⟩ := DataW.trod_struct hs h
  rw [hC] at hlen
  match cs, hlen with
  | [c0, c1, c2, c3], _ =>
    obtain ⟨o0, k0⟩ := hone_of hone 0 f0 rfl
    obtain ⟨o1, k1⟩ := hone_of hone 1 f1 rfl
    obtain ⟨o2, k2⟩ := hone_of hone 2 f2 rfl
    obtain ⟨o3, k3⟩ := hone_of hone 3 f3 rfl
    match ys, hyl with
    | [y0, y1, y2, y3], _ =>
      obtain ⟨a, ha, ga⟩ := h0 _ _ _ (by simpa [o0, k0] using hf 0 f0 rfl)
      obtain ⟨b, hb, gb⟩ := h1 _ _ _ (by simpa [o1, k1] using hf 1 f1 rfl)
      obtain ⟨d, hd, gd⟩ := h2 _ _ _ (by simpa [o2, k2] using hf 2 f2 rfl)
      obtain ⟨q, hq, gq⟩ := h3 _ _ _ (by simpa [o3, k3] using hf 3 f3 rfl)
      exact ⟨(a, b, d, q), by simp_all, ga, gb, gd, gq⟩

/-- An argument of whatever one-cell type, by its reading. -/
theorem open_one {α : Type} {t : TypeId} {g : α → Value} {G : α → Prop} {v : Value} {d : DataW H} {p : List MemPlace} (ho : Opens enc P w base spare held t (fun a => [g a]) G) (hv : v.cells = #[v]) (h : DataW.Trod enc P w base spare held t v d p) : ∃ a, v = g a ∧ G a := by
  obtain ⟨fuel, hf⟩ := h
  rw [hv] at hf
  obtain ⟨a, ha, ga⟩ := ho _ _ _ hf
  exact ⟨a, by simpa using ha, ga⟩
/-- A struct argument of two one-cell fields. -/
theorem open_pair {α β : Type} {e : TypeId} {f0 f1 : Field} {g0 : α → Value} {g1 : β → Value} {G0 : α → Prop} {G1 : β → Prop} {r : Reach} {b0 : Nat} {v : Value} {d : DataW H} {p : List MemPlace} (hs : P.underlying e = some (.struct #[f0, f1]))
    (hone : oneCellFields P #[f0, f1] = true) (hC : P.cellsOf e = 2) (h0 : Opens enc P w base spare held f0.type (fun a => [g0 a]) G0) (h1 : Opens enc P w base spare held f1.type (fun a => [g1 a]) G1)
    (hv : Value.okWide P w r b0 e v) (h : DataW.Trod enc P w base spare held e v d p) : ∃ a b, v = .agg #[g0 a, g1 b] ∧ G0 a ∧ G1 b := by
  obtain ⟨cs, rfl, hsz⟩ := okWide_struct hs hv
  obtain ⟨fuel, hf⟩ := h
  obtain ⟨⟨a, b⟩, hab, ga, gb⟩ := opens_struct2 hs hone hC h0 h1 _ _ _ hf
  refine ⟨a, b, ?_, ga, gb⟩
  simp only [Value.cells] at hab
  rw [show cs = #[g0 a, g1 b] from by rw [← Array.toArray_toList (xs := cs), hab]]
end
theorem trod_blocks {H : Type} {enc : TypeId × Value → H} {P : Program} {w : World} {base : Nat} {spare : Nat → Bool} {held : Bool} {t : TypeId} {v : Value} {d : DataW H} {p : List MemPlace} (h : DataW.Trod enc P w base spare held t v d p) : ∀ x ∈ p, x.block < w.heap.size := by
  obtain ⟨m, hm⟩ := h
  exact DataW.trod_lt m _ _ _ hm
end Go.Proofs.Ytdinknpagklkjaa

/- A map in memory as a list of keys and values: look-up, the two steps of an assignment by an operator, a plain store. Conditions: the key's type bears KeyL. -/
namespace Go.Proofs.Ytdinknpagklkjaa
open Go.RowKit

section
variable {κ : Type} [DecidableEq κ]
def lookK : List (κ × Value) → κ → Nat → Option (Nat × Value)
  | [], _, _ => none
  | p :: L, a, i => if a = p.1 then some (i, p.2) else lookK L a (i + 1)
/-- The value at a key. -/
def getK : List (κ × Value) → κ → Option Value
  | [], _ => none
  | p :: L, a => if a = p.1 then some p.2 else getK L a
/-- The list with a value stored at a key. -/
def putK : List (κ × Value) → κ → Value → List (κ × Value)
  | [], a, v => [(a, v)]
  | p :: L, a, v => if a = p.1 then (p.1, v) :: L else p :: putK L a v
structure KeyL (P : Program) (t : TypeId) (kv : κ → Value) : Prop where
  chk : ∀ (b : Bool) (a : κ) (w : World), (Instr.checkKey b 10000 t (kv a)).run P w = .ok () w
  eqv : ∀ (a b : κ) (w : World), (Op.equal t (kv a) (kv b)).run P w = .ok (decide (a = b)) w
  desc : ∃ d, P.underlying t = some d ∧ ((∀ a b, Instr.sameNow d (kv a) (kv b) = none) ∨ (∀ a b, Instr.sameNow d (kv a) (kv b) = some (decide (a = b))))
  self : ∀ a, Instr.sameBits 10000 (kv a) (kv a) = true

theorem getK_look (L : List (κ × Value)) (a : κ) (i : Nat) : getK L a = (lookK L a i).map (·.2) := by
  induction L generalizing i with
  | nil => rfl
  | cons p L ih =>
    unfold getK lookK
    split
    · rfl
    · exact ih (i + 1)
theorem lookK_none {L : List (κ × Value)} {a : κ} {i : Nat} (h : lookK L a i = none) : ∀ p ∈ L, p.1 ≠ a := by
  induction L generalizing i with
  | nil => simp
  | cons p L ih =>
    unfold lookK at h
    split at h
    · cases h
    · rename_i hne
      intro q hq
      rcases List.mem_cons.1 hq with rfl | hq
      · exact fun e => hne e.symm
      · exact ih h q hq
theorem lookK_some {L : List (κ × Value)} {a : κ} {i j : Nat} {v : Value} (h : lookK L a i = some (j, v)) : ∃ m, j = i + m ∧ L[m]? = some (a, v) := by
  induction L generalizing i with
  | nil => cases h
  | cons p L ih =>
    unfold lookK at h
    split at h
    · rename_i e
      simp only [Option.some.injEq, Prod.mk.injEq] at h
      obtain ⟨rfl, rfl⟩ := h
      exact ⟨0, rfl, by simp [e]⟩
    · obtain ⟨m, rfl, hm⟩ := ih h
      exact ⟨m + 1, by omega, by simpa using hm⟩
theorem putK_none {L : List (κ × Value)} {a : κ} {v : Value} (h : ∀ p ∈ L, p.1 ≠ a) : putK L a v = L ++ [(a, v)] := by
  induction L with
  | nil => rfl
  | cons p L ih =>
    unfold putK
    rw [if_neg (fun e => h p (by simp) e.symm), ih (fun q hq => h q (by simp [hq]))]
    rfl
theorem putK_some {L : List (κ × Value)} {a : κ} {v u : Value} {m : Nat} (hn : (L.map Prod.fst).Nodup) (h : L[m]? = some (a, u)) : putK L a v = L.set m (a, v) := by
  induction L generalizing m with
  | nil => simp at h
  | cons p L ih =>
    cases m with
    | zero =>
      simp at h
      subst h
      simp [putK]
    | succ m =>
      simp at h
      have hne : ¬ a = p.1 := by
        rintro rfl
        simp only [List.map_cons, List.nodup_cons] at hn
        exact hn.1 (List.mem_map.2 ⟨_, List.mem_of_getElem? h, rfl⟩)
      unfold putK
      rw [if_neg hne, ih (by simp only [List.map_cons, List.nodup_cons] at hn; exact hn.2) h]
      rfl
theorem getK_put_same (L : List (κ × Value)) (a : κ) (v : Value) : getK (putK L a v) a = some v := by
  induction L with
  | nil => simp [putK, getK]
  | cons p L ih =>
    unfold putK
    split
    · rename_i e; simp [getK, e]
    · rename_i e; simp [getK, e, ih]
theorem getK_put_other (L : List (κ × Value)) {a b : κ} (v : Value) (h : b ≠ a) : getK (putK L a v) b = getK L b := by
  induction L with
  | nil => simp [putK, getK, h]
  | cons p L ih =>
    unfold putK
    split
    · rename_i e
      subst e
      simp [getK, h]
    · unfold getK
      rw [ih]

def Rep (kv : κ → Value) (es : Array MapEntry) (clock : Nat) (L : List (κ × Value)) : Prop :=
  es.toList.map (fun e => (e.key, e.val)) = L.map (fun p => (kv p.1, p.2)) ∧ (es.toList.map (·.born)).Nodup ∧ (∀ e ∈ es.toList, e.born < clock) ∧ (L.map Prod.fst).Nodup
def MapB (w : World) (r : Nat) (kv : κ → Value) (L : List (κ × Value)) : Prop := ∃ es clock, w.heap[r]? = some (.map es clock) ∧ Rep kv es clock L
def setO (w : World) (r : Nat) (o : Obj) : World := { w with heap := w.heap.setIfInBounds r o }

section
variable {P : Program} {t : TypeId} {kv : κ → Value}
theorem findNow_l {d : TypeDesc} (h : ∀ a b, Instr.sameNow d (kv a) (kv b) = some (decide (a = b))) (a : κ) : ∀ (L : List (κ × Value)) (es : List MapEntry) (i : Nat), es.map (fun e => (e.key, e.val)) = L.map (fun p => (kv p.1, p.2)) → Instr.findNow d (kv a) es i = some (lookK L a i)
  | [], es, i, he => by
    simp at he
    subst he
    rfl
  | p :: L, es, i, he => by
    cases es with
    | nil => simp at he
    | cons e es =>
      simp only [List.map_cons, List.cons.injEq, Prod.mk.injEq] at he
      obtain ⟨⟨h1, h2⟩, h3⟩ := he
      unfold Instr.findNow lookK
      rw [h1, h a p.1]
      by_cases hp : a = p.1
      · simp [hp, h2]
      · simp only [hp, decide_false, if_false]
        exact findNow_l h a L es (i + 1) h3
theorem findAsking_l (K : KeyL P t kv) (a : κ) (w : World) : ∀ (L : List (κ × Value)) (es : List MapEntry) (i : Nat), es.map (fun e => (e.key, e.val)) = L.map (fun p => (kv p.1, p.2)) → (Instr.findAsking t (kv a) es i).run P w = .ok (lookK L a i) w
  | [], es, i, he => by
    simp at he
    subst he
    rfl
  | p :: L, es, i, he => by
    cases es with
    | nil => simp at he
    | cons e es =>
      simp only [List.map_cons, List.cons.injEq, Prod.mk.injEq] at he
      obtain ⟨⟨h1, h2⟩, h3⟩ := he
      unfold Instr.findAsking lookK
      rw [h1]
      simp only [Sem.run_bind, K.eqv a p.1 w, Result.andThen]
      by_cases hp : a = p.1
      · simp [hp, h2]
      · simp only [hp, decide_false, if_false, Bool.false_eq_true]
        exact findAsking_l K a w L es (i + 1) h3
theorem findNow_nil {d : TypeDesc} (h : ∀ a b, Instr.sameNow d (kv a) (kv b) = none) (a : κ) (L : List (κ × Value)) (es : List MapEntry) (he : es.map (fun e => (e.key, e.val)) = L.map (fun p => (kv p.1, p.2))) :
    Instr.findNow d (kv a) es 0 = none ∨ Instr.findNow d (kv a) es 0 = some (lookK L a 0) := by
  cases L with
  | nil =>
    simp at he
    subst he
    exact .inr rfl
  | cons p L =>
    cases es with
    | nil => simp at he
    | cons e es =>
      simp only [List.map_cons, List.cons.injEq, Prod.mk.injEq] at he
      left
      unfold Instr.findNow
      rw [he.1.1, h]
theorem findKey_l (K : KeyL P t kv) (a : κ) (w : World) (L : List (κ × Value)) (es : List MapEntry) (he : es.map (fun e => (e.key, e.val)) = L.map (fun p => (kv p.1, p.2))) : (Instr.findKey t (kv a) es).run P w = .ok (lookK L a 0) w := by
  obtain ⟨d, hd, h⟩ := K.desc
  unfold Instr.findKey
  simp only [Sem.run_bind, run_underlying hd, Result.andThen]
  rcases h with h | h
  · rcases findNow_nil h a L es he with h1 | h1
    · rw [h1]; exact findAsking_l K a w L es 0 he
    · rw [h1]; rfl
  · rw [findNow_l h a L es 0 he]; rfl

theorem run_look {T e : TypeId} (K : KeyL P t kv) (ht : P.underlying T = some (.map t e)) {z : Value} (hz : ∀ u : World, (zeroValue e).run P u = .ok z u) {w : World} {r : Nat} {L : List (κ × Value)} (h : MapB w r kv L) (a : κ) (ok : Bool) :
    (Instr.lookup T (.map (some r)) (kv a) ok).run P w = .ok (if ok then .tuple #[(getK L a).getD z, .bool (getK L a).isSome] else (getK L a).getD z) w := by
  obtain ⟨es, clock, hb, h1, _⟩ := h
  have hf := findKey_l K a w L es.toList h1
  simp only [Instr.lookup, Sem.run_bind, run_underlying ht, Result.andThen, MapKept.run_getObj_map hb, Sem.run_pure, K.chk, hf]
  rw [getK_look L a 0]
  cases hl : lookK L a 0 with
  | none => simp [hz, Result.andThen]
  | some p => simp
theorem setO_grown (w : World) (r : Nat) (o : Obj) : w.grownBy (setO w r o) (some r) :=
  ⟨rfl, rfl, rfl, by simp [setO], fun k hk hne => by
    have : r ≠ k := fun e => hne (by rw [e])
    simp [setO, this]⟩
theorem rep_put_new {es : Array MapEntry} {clock : Nat} {L : List (κ × Value)} (h : Rep kv es clock L) {a : κ} {v : Value} (hn : ∀ p ∈ L, p.1 ≠ a) : Rep kv (es.push { key := kv a, val := v, born := clock }) (clock + 1) (putK L a v) := by
  obtain ⟨h1, h2, h3, h4⟩ := h
  rw [putK_none hn]
  refine ⟨by simp [h1], ?_, ?_, ?_⟩
  · simp only [Array.toList_push, List.map_append, List.map_cons, List.map_nil]
    refine List.nodup_append.2 ⟨h2, by simp, fun x hx c hc e1 => ?_⟩
    simp only [List.mem_singleton] at hc
    obtain ⟨y, hy, rfl⟩ := List.mem_map.1 hx
    have := h3 y hy
    omega
  · intro e he
    simp only [Array.toList_push, List.mem_append, List.mem_singleton] at he
    rcases he with he | rfl
    · have := h3 e he; omega
    · show clock < clock + 1; omega
  · rw [List.map_append]
    refine List.nodup_append.2 ⟨h4, by simp, fun x hx c hc e1 => ?_⟩
    simp only [List.map_cons, List.map_nil, List.mem_singleton] at hc
    obtain ⟨y, hy, rfl⟩ := List.mem_map.1 hx
    exact hn y hy (by rw [e1, hc])
omit [DecidableEq κ] in
theorem rep_at {es : Array MapEntry} {clock : Nat} {L : List (κ × Value)} (h : Rep kv es clock L) {m : Nat} {a : κ} {u : Value} (hm : L[m]? = some (a, u)) : ∃ e0, es.toList[m]? = some e0 ∧ e0.key = kv a ∧ e0.val = u := by
  have h1 := congrArg (fun l => l[m]?) h.1
  simp only [List.getElem?_map, hm, Option.map_some] at h1
  cases he : es.toList[m]? with
  | none => rw [he] at h1; cases h1
  | some e0 =>
    rw [he] at h1
    simp only [Option.map_some, Option.some.injEq, Prod.mk.injEq] at h1
    exact ⟨e0, rfl, h1.1, h1.2⟩
theorem rep_put_old {es : Array MapEntry} {clock : Nat} {L : List (κ × Value)} (h : Rep kv es clock L) {m : Nat} {a : κ} {u v : Value} (hm : L[m]? = some (a, u)) (g : MapEntry → MapEntry)
    (hg : ∀ e0, es.toList[m]? = some e0 → (g e0).key = kv a ∧ (g e0).val = v ∧ (g e0).born = e0.born) : Rep kv (es.modify m g) clock (putK L a v) := by
  obtain ⟨e0, he0, hk0, hv0⟩ := rep_at h hm
  obtain ⟨h1, h2, h3, h4⟩ := h
  obtain ⟨gk, gv, gb⟩ := hg e0 he0
  have hlt : m < es.toList.length := (List.getElem?_eq_some_iff.1 he0).1
  have hlt' : m < es.size := by simpa using hlt
  have hmL : m < L.length := (List.getElem?_eq_some_iff.1 hm).1
  have hgm : es[m] = e0 := by have := (List.getElem?_eq_some_iff.1 he0).2; simpa using this
  have hLm : L[m] = (a, u) := (List.getElem?_eq_some_iff.1 hm).2
  have hmod : (es.modify m g).toList = es.toList.set m (g e0) := by
    rw [Array.toList_modify]
    apply List.ext_getElem?
    intro i
    rw [List.getElem?_modify, List.getElem?_set]
    by_cases hi : m = i
    · subst hi; simp [hgm, hlt']
    · simp [hi]
  rw [putK_some h4 hm]
  refine ⟨?_, ?_, ?_, ?_⟩
  · rw [hmod, List.map_set, List.map_set, h1, gk, gv]
  · rw [hmod, List.map_set, gb]
    have : (es.toList.map (·.born)).set m e0.born = es.toList.map (·.born) := by
      apply List.ext_getElem?
      intro i
      rw [List.getElem?_set]
      by_cases hi : m = i
      · subst hi; simp [hgm, hlt']
      · simp [hi]
    rw [this]; exact h2
  · intro e he
    rw [hmod] at he
    rcases List.mem_or_eq_of_mem_set he with he | rfl
    · exact h3 e he
    · rw [gb]; exact h3 e0 (List.mem_of_getElem? he0)
  · rw [List.map_set]
    have : (L.map Prod.fst).set m a = L.map Prod.fst := by
      apply List.ext_getElem?
      intro i
      rw [List.getElem?_set]
      by_cases hi : m = i
      · subst hi
        simp [hLm, hmL]
      · simp [hi]
    rw [this]; exact h4
omit [DecidableEq κ] in
theorem MapB.set_ {w : World} {r : Nat} {L L' : List (κ × Value)} {es : Array MapEntry} {clock : Nat} (h : MapB w r kv L) (hr : Rep kv es clock L') : MapB (setO w r (.map es clock)) r kv L' := by
  obtain ⟨es0, c0, hb, _⟩ := h
  exact ⟨es, clock, (MapKept.heap_set hb).1, hr⟩
theorem run_stays (K : KeyL P t kv) (a : κ) (w : World) : (Instr.keyThatStays (kv a) (kv a)).run P w = .ok (kv a) w := by
  simp [Instr.keyThatStays, K.self a]
/-- 'm[a] = v'. -/
theorem run_put {T e : TypeId} (K : KeyL P t kv) (ht : P.underlying T = some (.map t e)) {w : World} {r : Nat} {L : List (κ × Value)} (h : MapB w r kv L) (a : κ) (v : Value) :
    ∃ w', (Instr.mapUpdate T (.map (some r)) (kv a) v).run P w = .ok () w' ∧ MapB w' r kv (putK L a v) ∧ w.grownBy w' (some r) ∧ w'.heap.size = w.heap.size := by
  have h' := h
  obtain ⟨es, clock, hb, hrep⟩ := h
  have hf := findKey_l K a w L es.toList hrep.1
  cases hl : lookK L a 0 with
  | none =>
    refine ⟨setO w r (.map (es.push { key := kv a, val := v, born := clock }) (clock + 1)), ?_, h'.set_ (rep_put_new hrep (lookK_none hl)), setO_grown _ _ _, by simp [setO]⟩
    simp [Instr.mapUpdate, run_underlying ht, MapKept.run_getObj_map hb, K.chk, hf, hl, MapKept.run_setObj_map _ hb, Result.andThen, setO]
  | some p =>
    obtain ⟨j, u⟩ := p
    obtain ⟨m, hj, hm⟩ := lookK_some hl
    obtain rfl : j = m := by omega
    obtain ⟨e0, he0, hk0, hv0⟩ := rep_at hrep hm
    have hej : es[j]? = some e0 := by simpa using he0
    refine ⟨setO w r (.map (es.modify j fun e' => { e' with key := kv a, val := v }) clock), ?_, h'.set_ (rep_put_old hrep hm _ (fun _ _ => ⟨rfl, rfl, rfl⟩)), setO_grown _ _ _, by simp [setO]⟩
    simp [Instr.mapUpdate, run_underlying ht, MapKept.run_getObj_map hb, K.chk, hf, hl, hej, hk0, run_stays K, MapKept.run_setObj_map _ hb, Result.andThen, setO]
/-- The two steps of 'm[a] op= ..': the entry is there (the zero, if it was not); then the store. -/
theorem run_entry {T e : TypeId} (K : KeyL P t kv) (ht : P.underlying T = some (.map t e)) {z : Value} (hz : ∀ u : World, (zeroValue e).run P u = .ok z u) {w : World} {r : Nat} {L : List (κ × Value)} (h : MapB w r kv L) (a : κ) :
    ∃ (w1 : World) (st : Nat) (L1 : List (κ × Value)), (Instr.mapEntry T (.map (some r)) (kv a)).run P w = .ok (.tuple #[(getK L a).getD z, .int .i64 st]) w1 ∧ MapB w1 r kv L1 ∧ (getK L1 a) = some ((getK L a).getD z) ∧ w.grownBy w1 (some r) ∧ w1.heap.size = w.heap.size ∧
      ∀ (w2 : World) (v : Value), w2.heap[r]? = w1.heap[r]? → ∃ w3, (Instr.entryStore T (.map (some r)) (.int .i64 st) v).run P w2 = .ok () w3 ∧ MapB w3 r kv (putK L a v) ∧ w2.grownBy w3 (some r) ∧ w3.heap.size = w2.heap.size := by
  have h' := h
  obtain ⟨es, clock, hb, hrep⟩ := h
  have hf := findKey_l K a w L es.toList hrep.1
  have fin : ∀ (es1 : Array MapEntry) (c1 : Nat) (m : Nat) (e0 : MapEntry) (L1 : List (κ × Value)) (u : Value), Rep kv es1 c1 L1 → es1.toList[m]? = some e0 → e0.key = kv a → L1[m]? = some (a, u) → (∀ v, putK L1 a v = putK L a v) →
      ∀ (w2 : World) (v : Value), w2.heap[r]? = some (.map es1 c1) → ∃ w3, (Instr.entryStore T (.map (some r)) (.int .i64 e0.born) v).run P w2 = .ok () w3 ∧ MapB w3 r kv (putK L a v) ∧ w2.grownBy w3 (some r) ∧ w3.heap.size = w2.heap.size := by
    intro es1 c1 m e0 L1 u hrep1 he0 hk0 hm hput w2 v hw2
    have hidx : es1.findIdx? (fun e => ((e.born : Nat) : Int) == ((e0.born : Nat) : Int)) = some m := by
      rw [WideElems.findIdx_arr]
      exact WideElems.findIdx_born hrep1.2.1 he0
    refine ⟨setO w2 r (.map (es1.modify m fun e => { e with val := v }) c1), ?_, ?_, setO_grown _ _ _, by simp [setO]⟩
    · simp [Instr.entryStore, MapKept.run_getObj_map hw2, asInt, asIntOf, hidx, MapKept.run_setObj_map _ hw2, Result.andThen, setO]
    · rw [← hput]
      refine MapB.set_ (L := L1) ⟨es1, c1, hw2, hrep1⟩ (rep_put_old hrep1 hm _ (fun e1 he1 => ?_))
      rw [he0] at he1
      cases he1
      exact ⟨hk0, rfl, rfl⟩
  cases hl : lookK L a 0 with
  | none =>
    have hno := lookK_none hl
    have hg : getK L a = none := by rw [getK_look L a 0, hl]; rfl
    have hrep1 := rep_put_new (v := z) hrep hno
    have hL1 : putK L a z = L ++ [(a, z)] := putK_none hno
    have hlen : L.length = es.toList.length := by have := congrArg List.length hrep.1; simpa using this.symm
    refine ⟨setO w r (.map (es.push { key := kv a, val := z, born := clock }) (clock + 1)), clock, putK L a z, ?_, h'.set_ hrep1, by rw [getK_put_same, hg]; rfl, setO_grown _ _ _, by simp [setO], fun w2 v hw2 => ?_⟩
    · rw [hg]
      simp [Instr.mapEntry, run_underlying ht, MapKept.run_getObj_map hb, K.chk, hf, hl, hz, MapKept.run_setObj_map _ hb, Result.andThen, setO, goInt]
    · refine fin _ _ L.length { key := kv a, val := z, born := clock } _ z hrep1 (by rw [hlen]; simp) rfl (by rw [hL1]; simp) (fun v => ?_) w2 v (hw2.trans (MapKept.heap_set hb).1)
      rw [hL1, putK_some (m := L.length) (u := z) (by rw [← hL1]; exact hrep1.2.2.2) (by simp), putK_none hno]
      simp
  | some p =>
    obtain ⟨j, u⟩ := p
    obtain ⟨m, hj, hm⟩ := lookK_some hl
    obtain rfl : j = m := by omega
    obtain ⟨e0, he0, hk0, hv0⟩ := rep_at hrep hm
    have hg : getK L a = some u := by rw [getK_look L a 0, hl]; rfl
    have hej : es[j]? = some e0 := by simpa using he0
    have hsame : es.modify j (fun e => { e with key := kv a }) = es := by
      apply Array.ext'
      rw [Array.toList_modify]
      apply List.ext_getElem?
      intro i
      rw [List.getElem?_modify]
      by_cases hi : j = i
      · subst hi; rw [he0]; simp [← hk0]
      · simp [hi]
    have hset : setO w r (.map es clock) = w := by
      have : w.heap.setIfInBounds r (.map es clock) = w.heap := by
        apply Array.ext_getElem?
        intro i
        rw [Array.getElem?_setIfInBounds]
        by_cases hi : r = i
        · subst hi
          have hlt : r < w.heap.size := (Array.getElem?_eq_some_iff.1 hb).1
          have hge : w.heap[r] = .map es clock := (Array.getElem?_eq_some_iff.1 hb).2
          simp [hlt, hge]
        · simp [hi]
      unfold setO
      rw [this]
    refine ⟨w, e0.born, L, ?_, h', by rw [hg]; rfl, World.grownBy.refl w _, rfl, fun w2 v hw2 => ?_⟩
    · rw [hg]
      have h2 := MapKept.run_setObj_map (P := P) (.map es clock) hb
      rw [show ({ w with heap := w.heap.setIfInBounds r (.map es clock) } : World) = w from hset] at h2
      simp [Instr.mapEntry, run_underlying ht, MapKept.run_getObj_map hb, K.chk, hf, hl, hej, hk0, run_stays K, hsame, h2, Result.andThen, goInt]
    · exact fin es clock j e0 L u hrep he0 hk0 hm (fun _ => rfl) w2 v (hw2.trans hb)
end

end
section
variable {κ : Type} {w w' : World} {r : Nat} {kv : κ → Value} {L : List (κ × Value)}
theorem MapB.lt (h : MapB w r kv L) : r < w.heap.size := by
  obtain ⟨_, _, hb, _⟩ := h
  exact (Array.getElem?_eq_some_iff.1 hb).1
theorem MapB.same (h : MapB w r kv L) (he : w'.heap[r]? = w.heap[r]?) : MapB w' r kv L := by
  obtain ⟨es, c, hb, hr⟩ := h
  exact ⟨es, c, he.trans hb, hr⟩
theorem MapB.below {B : Nat} (h : MapB w r kv L) (hb : Below B w w') (hr : r < B) : MapB w' r kv L := h.same (hb.block r hr)
theorem MapB.grown {row : Option Nat} (h : MapB w r kv L) (hg : w.grownBy w' row) (hr : some r ≠ row) : MapB w' r kv L := h.same (hg.block r h.lt hr)
theorem MapB.alloc (h : MapB w r kv L) (o : Obj) : MapB (w.alloc o) r kv L := h.same (Below.heap_alloc w o r h.lt)
theorem MapB.drew (h : MapB w r kv L) : MapB w.drew r kv L := h
theorem MapB.drewN (h : MapB w r kv L) (n : Nat) : MapB (w.drewN n) r kv L := h
theorem MapB.setCell (h : MapB w r kv L) (p : Addr) (u : Value) : MapB (w.setCell p u) r kv L := by
  obtain ⟨es, c, hb, hr⟩ := h
  refine ⟨es, c, ?_, hr⟩
  by_cases hp : r = p.block
  · subst hp
    simp only [World.setCell, Array.getElem?_modify, if_true, hb, Option.map_some]
  · exact (Below.heap_setCell w p u r hp).trans hb
theorem MapB.made (w : World) : MapB (w.alloc (.map #[] 0)) w.heap.size kv ([] : List (κ × Value)) := ⟨#[], 0, heap_alloc_new w _, rfl, by simp, by simp, by simp⟩
theorem MapB.ne_blk {g : Nat} {t : TypeId} {cs : Array Value} (h : MapB w r kv L) (hg : Blk w g t cs) : r ≠ g := by
  rintro rfl
  obtain ⟨es, c, hb, _⟩ := h
  unfold Blk at hg
  rw [hb] at hg
  cases hg
end
end Go.Proofs.Ytdinknpagklkjaa
