/- Words for memory that the walks of this seat share: a slice that reads as a list of elements of so many cells, a block known whole, an owned slice that reads as a list. Conditions: none. -/
import Derived.WalkKit
import Derived.WalkSpells
import Derived.WalkLawsBesides
import Derived.Deep.AppendLies
import Derived.Deep.Draws
import Derived.Deep.QuietTactic
import Derived.Deep.RegionHeld3
import Derived.Deep.LoopGhost
import Derived.Deep.DeepCutAuto
import Derived.BigQuiet
import Derived.Lib.Hide
import Derived.Laws.OwnMore
import Derived.Maps.AppendAt
import Derived.ProofKit
import Derived.OpenShut
import Derived.ShutString
import Derived.ChangeOld
import Derived.Below
import Derived.Deep.Slices
import Derived.Deep.Fields
import Derived.Lib.SmallJoins
import Derived.Test.YtdinknpagklkjaaProg
namespace Go.Proofs.Ytdinknpagklkjaa
open Go.RowKit

/-! ### Blocks -/
def Blk (w : World) (g : Nat) (t : TypeId) (cs : Array Value) : Prop := w.heap[g]? = some (.cells cs t (0, 0))
section
variable {w w' : World} {g : Nat} {t : TypeId} {cs : Array Value}
theorem Blk.lt (h : Blk w g t cs) : g < w.heap.size := (Array.getElem?_eq_some_iff.1 h).1
theorem Blk.cell (h : Blk w g t cs) (i : Nat) : w.cell? ⟨g, i, none⟩ = cs[i]? := cell_of_row w g i cs t (0, 0) h
theorem Blk.frozen (h : Blk w g t cs) (i : Nat) : w.frozen? ⟨g, i, none⟩ = false := frozen_of_row w g i cs t h
theorem Blk.new (w : World) (t : TypeId) (cs : Array Value) : Blk (w.alloc (.cells cs t)) w.heap.size t cs := heap_alloc_new w _
theorem Blk.drew (h : Blk w g t cs) : Blk w.drew g t cs := h
theorem Blk.drewN (h : Blk w g t cs) (n : Nat) : Blk (w.drewN n) g t cs := h
theorem Blk.alloc (h : Blk w g t cs) (o : Obj) : Blk (w.alloc o) g t cs := (Below.heap_alloc w o g h.lt).trans h
theorem Blk.put (h : Blk w g t cs) (i : Nat) (u : Value) : Blk (w.setCell ⟨g, i, none⟩ u) g t (cs.setIfInBounds i u) := by
  unfold Blk at h ⊢
  simp [World.setCell, Array.getElem?_modify, h]
theorem Blk.far (h : Blk w g t cs) {p : Addr} (hp : g ≠ p.block) (u : Value) : Blk (w.setCell p u) g t cs := (Below.heap_setCell w p u g hp).trans h
theorem Blk.below {B : Nat} (h : Blk w g t cs) (hb : Below B w w') (hg : g < B) : Blk w' g t cs := (hb.block g hg).trans h
theorem Blk.grown {row : Option Nat} (h : Blk w g t cs) (hb : w.grownBy w' row) (hg : some g ≠ row) : Blk w' g t cs := (hb.block g h.lt hg).trans h
theorem Blk.differ {g' : Nat} {t' : TypeId} {cs' : Array Value} (h : Blk w g t cs) (h' : Blk w g' t' cs') (hne : t ≠ t') : g ≠ g' := by
  rintro rfl
  unfold Blk at h h'
  rw [h] at h'
  injection h' with h'
  injection h' with _ ht
  exact hne ht
end

/-! ### A slice that reads as a list: 'f a' are the cells of the element a, c of them -/
def Els {α : Type} (w : World) (B c : Nat) (f : α → List Value) (A : Option Addr) (l : List α) : Prop :=
  0 < l.length → ∃ b off, A = some ⟨b, off, none⟩ ∧ b < B ∧ ∀ k a, l[k]? = some a → ∀ j u, (f a)[j]? = some u → w.cell? ⟨b, off + k * c + j, none⟩ = some u
section
variable {α : Type} {w w' : World} {B B' c : Nat} {f : α → List Value} {A : Option Addr} {l : List α}
theorem Els.nil : Els w B c f A ([] : List α) := fun h => absurd h (by simp)
theorem Els.keep (h : Els w B c f A l) (hk : ∀ p : Addr, p.block < B → w'.cell? p = w.cell? p) : Els w' B c f A l := fun hn => by
  obtain ⟨b, off, e, hb, hc⟩ := h hn
  exact ⟨b, off, e, hb, fun k a ha j u hu => (hk _ hb).trans (hc k a ha j u hu)⟩
theorem Els.more (h : Els w B c f A l) (hB : B ≤ B') : Els w B' c f A l := fun hn => by
  obtain ⟨b, off, e, hb, hc⟩ := h hn
  exact ⟨b, off, e, by omega, hc⟩
theorem Els.below (h : Els w B c f A l) (hb : Below B w w') : Els w' B c f A l := h.keep fun _ hp => hb.cell hp
theorem Els.drew (h : Els w B c f A l) : Els w.drew B c f A l := h
theorem Els.drewN (h : Els w B c f A l) (k : Nat) : Els (w.drewN k) B c f A l := h
theorem Els.alloc (h : Els w B c f A l) (hB : B ≤ w.heap.size) (o : Obj) : Els (w.alloc o) B c f A l := h.below ((Below.refl _ _).alloc hB o)
theorem Els.grown (h : Els w B c f A l) {row : Option Nat} (hg : w.grownBy w' row) (hB : B ≤ w.heap.size) (hr : ∀ g, row = some g → B ≤ g) : Els w' B c f A l :=
  h.below ((Below.refl _ _).grown hg hB hr)
theorem Els.cut (h : Els w B c f A l) {k n cap : Nat} (hn : l.length = n) (hc : n ≤ cap) : Els w B c f (if cap = k then A else A.map (·.add (k * c))) (l.drop k) := fun hlt => by
  have hk : k < l.length := by simp at hlt; omega
  obtain ⟨b, off, rfl, hb, hcell⟩ := h (by omega)
  rw [if_neg (by omega)]
  refine ⟨b, off + k * c, ?_, hb, fun i a ha j u hu => ?_⟩
  · show some (Addr.add ⟨b, off, none⟩ (k * c)) = _
    unfold Addr.add
    split
    · rename_i h0; rw [h0]; rfl
    · rfl
  · have := hcell (k + i) a (by rw [← ha, List.getElem?_drop]) j u hu
    rw [show off + k * c + i * c + j = off + (k + i) * c + j from by rw [Nat.add_mul]; omega]
    exact this
theorem Els.pre (h : Els w B c f A l) (k : Nat) : Els w B c f A (l.take k) := fun hlt => by
  have hk : 0 < l.length := by
    have : (l.take k).length ≤ l.length := by simp; omega
    omega
  obtain ⟨b, off, rfl, hb, hcell⟩ := h hk
  refine ⟨b, off, rfl, hb, fun i a ha j u hu => hcell i a ?_ j u hu⟩
  rw [List.getElem?_take] at ha
  split at ha
  · exact ha
  · cases ha
/-- The element at k, by its cells: the address as the walk spells it. -/
theorem Els.at_ (h : Els w B c f A l) {k : Nat} (hk : k < l.length) : ∃ b off, A = some ⟨b, off, none⟩ ∧ b < B ∧ ∀ j u, (f l[k])[j]? = some u → w.cell? ⟨b, off + k * c + j, none⟩ = some u := by
  obtain ⟨b, off, e, hb, hc⟩ := h (by omega)
  exact ⟨b, off, e, hb, hc k _ (List.getElem?_eq_getElem hk)⟩
end
theorem Els.map_ {α β : Type} {w : World} {B c : Nat} {f : α → List Value} {f' : β → List Value} {A : Option Addr} {l : List α} (g : α → β) (h : Els w B c f A l) (e : ∀ a ∈ l, f a = f' (g a)) : Els w B c f' A (l.map g) := fun hlt => by
  obtain ⟨b, off, hA, hb, hc⟩ := h (by simpa using hlt)
  refine ⟨b, off, hA, hb, fun k a ha j u hu => ?_⟩
  rw [List.getElem?_map] at ha
  obtain ⟨a', ha', rfl⟩ := Option.map_eq_some_iff.1 ha
  exact hc k a' ha' j u (by rw [e a' (List.mem_of_getElem? ha')]; exact hu)
theorem Els.at1 {α : Type} {w : World} {B : Nat} {f : α → Value} {A : Option Addr} {l : List α} (h : Els w B 1 (fun a => [f a]) A l) {k : Nat} (hk : k < l.length) :
    ∃ b off, A = some ⟨b, off, none⟩ ∧ b < B ∧ w.cell? ⟨b, off + k, none⟩ = some (f l[k]) := by
  obtain ⟨b, off, e, hb, hc⟩ := h.at_ hk
  exact ⟨b, off, e, hb, by simpa using hc 0 _ rfl⟩
theorem Els.at2 {α : Type} {w : World} {B : Nat} {f g : α → Value} {A : Option Addr} {l : List α} (h : Els w B 2 (fun a => [f a, g a]) A l) {k : Nat} (hk : k < l.length) :
    ∃ b off, A = some ⟨b, off, none⟩ ∧ b < B ∧ w.cell? ⟨b, off + k * 2, none⟩ = some (f l[k]) ∧ w.cell? ⟨b, off + k * 2 + 1, none⟩ = some (g l[k]) := by
  obtain ⟨b, off, e, hb, hc⟩ := h.at_ hk
  exact ⟨b, off, e, hb, by simpa using hc 0 _ rfl, by simpa using hc 1 _ rfl⟩
theorem Els.at3 {α : Type} {w : World} {B : Nat} {f g p : α → Value} {A : Option Addr} {l : List α} (h : Els w B 3 (fun a => [f a, g a, p a]) A l) {k : Nat} (hk : k < l.length) :
    ∃ b off, A = some ⟨b, off, none⟩ ∧ b < B ∧ w.cell? ⟨b, off + k * 3, none⟩ = some (f l[k]) ∧ w.cell? ⟨b, off + k * 3 + 1, none⟩ = some (g l[k]) ∧ w.cell? ⟨b, off + k * 3 + 2, none⟩ = some (p l[k]) := by
  obtain ⟨b, off, e, hb, hc⟩ := h.at_ hk
  exact ⟨b, off, e, hb, by simpa using hc 0 _ rfl, by simpa using hc 1 _ rfl, by simpa using hc 2 _ rfl⟩
theorem Els.at4 {α : Type} {w : World} {B : Nat} {f g p q : α → Value} {A : Option Addr} {l : List α} (h : Els w B 4 (fun a => [f a, g a, p a, q a]) A l) {k : Nat} (hk : k < l.length) :
    ∃ b off, A = some ⟨b, off, none⟩ ∧ b < B ∧ w.cell? ⟨b, off + k * 4, none⟩ = some (f l[k]) ∧ w.cell? ⟨b, off + k * 4 + 1, none⟩ = some (g l[k]) ∧ w.cell? ⟨b, off + k * 4 + 2, none⟩ = some (p l[k]) ∧ w.cell? ⟨b, off + k * 4 + 3, none⟩ = some (q l[k]) := by
  obtain ⟨b, off, e, hb, hc⟩ := h.at_ hk
  exact ⟨b, off, e, hb, by simpa using hc 0 _ rfl, by simpa using hc 1 _ rfl, by simpa using hc 2 _ rfl, by simpa using hc 3 _ rfl⟩

theorem quietL {P : Program} {f : FuncId} {args : Array Value} {w : World} {n : Nat} {v : Value} (h : Calls P f args (w.drewN n) fun e w' => e = .returned v ∧ w.drewN n = w') : Calls P f args (w.drewN n) fun e w'' => e = .returned v ∧ ∃ m, w'' = w.drewN m :=
  h.mono fun _ _ ⟨he, hm⟩ => ⟨he, n, hm.symm⟩
theorem quietN {P : Program} {f : FuncId} {args : Array Value} {w : World} {n : Nat} {v : Value} (h : Calls P f args (w.drewN n) fun e w' => e = .returned v ∧ ∃ m, w' = (w.drewN n).drewN m) : Calls P f args (w.drewN n) fun e w'' => e = .returned v ∧ ∃ m, w'' = w.drewN m :=
  h.mono fun _ _ ⟨he, m, hm⟩ => ⟨he, n + m, by rw [hm, World.drewN_drewN]⟩
theorem quietAL {P : Program} {f : FuncId} {args : Array Value} {w : World} {a n : Nat} {v : Value} (h : Calls P f args (w.drewN (a + n)) fun e w' => e = .returned v ∧ w.drewN (a + n) = w') : Calls P f args (w.drewN (a + n)) fun e w'' => e = .returned v ∧ ∃ m, w'' = w.drewN (a + m) :=
  h.mono fun _ _ ⟨he, hm⟩ => ⟨he, n, hm.symm⟩
theorem quietAN {P : Program} {f : FuncId} {args : Array Value} {w : World} {a n : Nat} {v : Value} (h : Calls P f args (w.drewN (a + n)) fun e w' => e = .returned v ∧ ∃ m, w' = (w.drewN (a + n)).drewN m) : Calls P f args (w.drewN (a + n)) fun e w'' => e = .returned v ∧ ∃ m, w'' = w.drewN (a + m) :=
  h.mono fun _ _ ⟨he, m, hm⟩ => ⟨he, n + m, by rw [hm, World.drewN_drewN, Nat.add_assoc]⟩
/-- Function F has a body: a call of it enters it. -/
def Ent (P : Program) (F : FuncId) : Prop := ∀ (args : Array Value) (w : World), (callFunc F args).run P w = .ok (.enter F args) w
theorem ent_of {P : Program} {F : FuncId} {fn : Func} (hf : P.funcs[F]? = some fn) (hn : (fn.name == "runtime.NumGoroutine") = false) (hb : fn.body.isNone = false) : Ent P F := by
  intro args w
  have h1 : ¬ fn.name = "runtime.NumGoroutine" := by simpa using hn
  have h2 : ¬ fn.body = none := by intro h; rw [h] at hb; simp at hb
  simp [callFunc, hf, h1, h2]
theorem below_drewN {B : Nat} {a w : World} (h : Below B a w) (n : Nat) : Below B a (w.drewN n) := ⟨h.os, h.tape, h.output, h.size, h.block⟩
theorem below_of_drewN {B : Nat} {w w' : World} (h : ∃ n, w' = w.drewN n) : Below B w w' := by
  obtain ⟨n, rfl⟩ := h
  exact below_drewN (Below.refl _ _) n
theorem drewN_0 (w : World) : w = w.drewN 0 := rfl

/-! ### A search along a list -/
theorem any_take_succ {α : Type} (p : α → Bool) (l : List α) (k : Nat) (hk : k < l.length) : (l.take (k + 1)).any p = ((l.take k).any p || p l[k]) := by
  rw [List.take_succ_eq_append_getElem hk, List.any_append]
  simp
theorem any_of_get {α : Type} {p : α → Bool} {l : List α} {k : Nat} (hk : k < l.length) (h : p l[k] = true) : l.any p = true :=
  List.any_eq_true.2 ⟨_, List.getElem_mem hk, h⟩
theorem any_take_all {α : Type} {p : α → Bool} {l : List α} {k : Nat} (hk : l.length ≤ k) (h : (l.take k).any p = false) : l.any p = false := by
  rwa [List.take_of_length_le hk] at h
theorem any_range_succ (p : Nat → Bool) (k : Nat) : (List.range (k + 1)).any p = ((List.range k).any p || p k) := by
  rw [List.range_succ, List.any_append]
  simp
theorem any_range_of {p : Nat → Bool} {k n : Nat} (hk : k < n) (h : p k = true) : (List.range n).any p = true :=
  List.any_eq_true.2 ⟨k, List.mem_range.2 hk, h⟩
/-- The first place at which p holds; -1: there is none. -/
def idxF {α : Type} (p : α → Bool) (l : List α) : Int := if l.any p = true then (l.findIdx p : Int) else -1
theorem idxF_at {α : Type} {p : α → Bool} {l : List α} {k : Nat} (hk : k < l.length) (hno : (l.take k).any p = false) (h : p l[k] = true) : idxF p l = k := by
  unfold idxF
  rw [if_pos (any_of_get hk h)]
  congr 1
  rw [List.findIdx_eq hk]
  refine ⟨h, fun j hj => ?_⟩
  have := List.any_eq_false.1 hno (l[j]) (by
    rw [List.mem_take_iff_getElem]
    exact ⟨j, by omega, rfl⟩)
  simpa using this
theorem idxF_none {α : Type} {p : α → Bool} {l : List α} (hno : l.any p = false) : idxF p l = -1 := by
  unfold idxF
  rw [hno]
  rfl
theorem idxF_nonneg {α : Type} (p : α → Bool) (l : List α) : decide (0 ≤ idxF p l) = l.any p := by
  unfold idxF
  split
  · rename_i h; rw [h]; simp
  · rename_i h; simp at h; simpa using h
theorem getD_at {α : Type} (l : List α) (k : Nat) (h : k < l.length) (d : α) : l.getD k d = l[k] := by simp [List.getD, h]
theorem drop_at {α : Type} (l : List α) (k : Nat) (hk : k < l.length) : l.drop k = l[k] :: l.drop (k + 1) := List.drop_eq_getElem_cons hk
theorem ret_i64 {a b : Int} (h : a = b) : Ending.returned (.int .i64 a) = .returned (.int .i64 b) := by rw [h]
theorem ret_u32 {a b : Int} (h : a = b) : Ending.returned (.int .u32 a) = .returned (.int .u32 b) := by rw [h]
theorem ret_bool {a b : Bool} (h : a = b) : Ending.returned (.bool a) = .returned (.bool b) := by rw [h]
theorem size_alloc' (w : World) (o : Obj) : (w.alloc o).heap.size = w.heap.size + 1 := by simp
end Go.Proofs.Ytdinknpagklkjaa

/- How the arguments of the laws are opened: a slice as a list of elements, whatever the element's shape; structs by value. Conditions: none. -/
namespace Go.Proofs.Ytdinknpagklkjaa
open Go.ChangeShapes Go.WideShapes Go.ChangeAt Go.RowKit Go.Deep Go.Joins

def OkI (n : Int) : Prop := -9223372036854775808 ≤ n ∧ n ≤ 9223372036854775807
def OkU (n : Int) : Prop := 0 ≤ n ∧ n ≤ 4294967295
theorem okI_of {n : Int} (h : (Lit.int .i64 n).wf = true) : OkI n := by
  have := bounds_i64 h
  unfold OkI; omega
theorem okU_of {n : Int} (h : (Lit.int .u32 n).wf = true) : OkU n := by
  have := bounds_u32 h
  unfold OkU; omega

section
variable {H : Type} {enc : TypeId × Value → H} {P : Program} {w : World} {base : Nat} {spare : Nat → Bool} {held : Bool}
/-- An element of type e reads as some a of which Good holds; its cells are 'f a'. -/
def Opens {α : Type} (enc : TypeId × Value → H) (P : Program) (w : World) (base : Nat) (spare : Nat → Bool) (held : Bool) (e : TypeId) (f : α → List Value) (Good : α → Prop) : Prop :=
  ∀ (fuel : Nat) (cs : List Value) (y : DataW H × List MemPlace), DataW.trod enc P w base spare held fuel e cs = some y → ∃ a, cs = f a ∧ Good a

/-- A slice value with its elements. -/
structure Sls (α : Type) where
  A : Option Addr
  c : Nat
  l : List α
abbrev Sls.val {α : Type} (s : Sls α) : Value := .slice s.A s.l.length s.c
def Sls.Good {α : Type} (w : World) (B c : Nat) (f : α → List Value) (G : α → Prop) (s : Sls α) : Prop :=
  s.l.length ≤ maxLen ∧ s.l.length ≤ s.c ∧ Els w B c f s.A s.l ∧ ∀ a ∈ s.l, G a

theorem opens_i64 {e : TypeId} (he : P.underlying e = some (.int .i64)) : Opens enc P w base spare held e (fun n : Int => [.int .i64 n]) OkI := by
  intro fuel cs y h
  obtain ⟨n, rfl, _, wf⟩ := DataW.trod_int he h
  exact ⟨n, rfl, okI_of wf⟩
theorem opens_u32 {e : TypeId} (he : P.underlying e = some (.int .u32)) : Opens enc P w base spare held e (fun n : Int => [.int .u32 n]) OkU := by
  intro fuel cs y h
  obtain ⟨n, rfl, _, wf⟩ := DataW.trod_int he h
  exact ⟨n, rfl, okU_of wf⟩

theorem add_at (b off i : Nat) : (Addr.add ⟨b, off, none⟩ i) = ⟨b, off + i, none⟩ := by
  unfold Addr.add
  split
  · rename_i h; rw [h]; rfl
  · rfl

theorem opens_slice {α : Type} {t e c : Nat} {f : α → List Value} {G : α → Prop} (ht : P.underlying t = some (.slice e)) (hC : P.cellsOf e = c) (hc : 0 < c)
    (he : Opens enc P w base spare held e f G) :
    Opens enc P w base spare held t (fun s : Sls α => [s.val]) (Sls.Good w w.heap.size c f G) := by
  intro fuel cs x h
  rcases open_slice ht h with ⟨rfl, _⟩ | ⟨a, len, cap, m, n, D, Pl, rfl, _, hl, hm, hmm, hx, hi⟩
  · exact ⟨⟨none, 0, []⟩, rfl, by simp [maxLen], by simp, Els.nil, by simp⟩
  · have hlm : len ≤ m := by rw [hmm]; split <;> omega
    have key : ∀ i, i < len → ∃ y, w.cells? base (a.add (i * c)) c = some (f y) ∧ G y := fun i hilt => by
      obtain ⟨cs', hcs, htr⟩ := hi i (by omega)
      rw [hC] at hcs
      obtain ⟨y, rfl, hy⟩ := he _ _ _ htr
      exact ⟨y, hcs, hy⟩
    obtain ⟨l, hll, hlk⟩ : ∃ l : List α, l.length = len ∧ ∀ (i : Nat) (y : α), l[i]? = some y → w.cells? base (a.add (i * c)) c = some (f y) ∧ G y := by
      clear hi hmm hlm hl hm h hx
      induction len with
      | zero => exact ⟨[], rfl, by simp⟩
      | succ k ih =>
        obtain ⟨l, h1, h2⟩ := ih (fun i hi => key i (by omega))
        obtain ⟨y, hy⟩ := key k (by omega)
        refine ⟨l ++ [y], by simp [h1], fun i z hz => ?_⟩
        rw [List.getElem?_append] at hz
        split at hz
        · exact h2 i z hz
        · rename_i hlt
          have : i = k := by
            have := List.getElem?_eq_some_iff.1 hz
            obtain ⟨hh, _⟩ := this
            simp at hh; omega
          subst this
          rw [h1] at hz
          simp at hz
          subst hz
          exact hy
    refine ⟨⟨some a, cap, l⟩, by simp [Sls.val, hll], ?_, ?_, ?_, ?_⟩
    · simp only [hll]; omega
    · simp only [hll]; omega
    · intro hpos
      have hpos' : 0 < l.length := hpos
      obtain ⟨y0, hy0⟩ : ∃ y, l[0]? = some y := ⟨l[0], List.getElem?_eq_getElem hpos'⟩
      obtain ⟨hc0, _⟩ := hlk 0 y0 hy0
      obtain ⟨_, hcl0, hat0⟩ := World.cells?_some hc0
      have hz : w.cell? a = (f y0)[0]? := by
        have := hat0 0 hc
        simpa [Addr.add] using this
      have hsome : ∃ v, w.cell? a = some v := by
        rw [hz]
        exact ⟨(f y0)[0]'(by omega), List.getElem?_eq_getElem (by omega)⟩
      obtain ⟨v0, hv0⟩ := hsome
      obtain ⟨b, off, spot⟩ := a
      have hspot : spot = none := by simpa using World.cell?_spot hv0
      subst hspot
      refine ⟨b, off, rfl, block_lt_of_cell hv0, fun k y hy j u hu => ?_⟩
      obtain ⟨hck, _⟩ := hlk k y hy
      obtain ⟨_, hclk, hatk⟩ := World.cells?_some hck
      have hj : j < c := by
        have := (List.getElem?_eq_some_iff.1 hu).1
        omega
      have := hatk j hj
      rw [add_at, add_at] at this
      rw [this, hu]
    · intro y hy
      obtain ⟨i, hi'⟩ := List.mem_iff_getElem?.1 hy
      exact (hlk i y hi').2

theorem opens_struct2 {α β : Type} {e : TypeId} {f0 f1 : Field} {g0 : α → Value} {g1 : β → Value} {G0 : α → Prop} {G1 : β → Prop} (hs : P.underlying e = some (.struct #[f0, f1]))
    (hone : oneCellFields P #[f0, f1] = true) (hC : P.cellsOf e = 2) (h0 : Opens enc P w base spare held f0.type (fun a => [g0 a]) G0) (h1 : Opens enc P w base spare held f1.type (fun a => [g1 a]) G1) :
    Opens enc P w base spare held e (fun p : α × β => [g0 p.1, g1 p.2]) (fun p => G0 p.1 ∧ G1 p.2) := by
  intro fuel cs x h
  obtain ⟨ys, n', _, _, hlen, hyl, hf⟩ := DataW.trod_struct hs h
  rw [hC] at hlen
  match cs, hlen with
  | [c0, c1], _ =>
    obtain ⟨o0, k0⟩ := hone_of hone 0 f0 rfl
    obtain ⟨o1, k1⟩ := hone_of hone 1 f1 rfl
    match ys, hyl with
    | [y0, y1], _ =>
      obtain ⟨a, ha, ga⟩ := h0 _ _ _ (by simpa [o0, k0] using hf 0 f0 rfl)
      obtain ⟨b, hb, gb⟩ := h1 _ _ _ (by simpa [o1, k1] using hf 1 f1 rfl)
      exact ⟨(a, b), by simp_all, ga, gb⟩
theorem opens_struct3 {α β γ : Type} {e : TypeId} {f0 f1 f2 : Field} {g0 : α → Value} {g1 : β → Value} {g2 : γ → Value} {G0 : α → Prop} {G1 : β → Prop} {G2 : γ → Prop} (hs : P.underlying e = some (.struct #[f0, f1, f2]))
    (hone : oneCellFields P #[f0, f1, f2] = true) (hC : P.cellsOf e = 3) (h0 : Opens enc P w base spare held f0.type (fun a => [g0 a]) G0) (h1 : Opens enc P w base spare held f1.type (fun a => [g1 a]) G1) (h2 : Opens enc P w base spare held f2.type (fun a => [g2 a]) G2) :
    Opens enc P w base spare held e (fun p : α × β × γ => [g0 p.1, g1 p.2.1, g2 p.2.2]) (fun p => G0 p.1 ∧ G1 p.2.1 ∧ G2 p.2.2) := by
  intro fuel cs x h
  obtain ⟨ys, n', _, _, hlen, hyl, hf⟩ := DataW.trod_struct hs h
  rw [hC] at hlen
  match cs, hlen with
  | [c0, c1, c2], _ =>
    obtain ⟨o0, k0⟩ := hone_of hone 0 f0 rfl
    obtain ⟨o1, k1⟩ := hone_of hone 1 f1 rfl
    obtain ⟨o2, k2⟩ := hone_of hone 2 f2 rfl
    match ys, hyl with
    | [y0, y1, y2], _ =>
      obtain ⟨a, ha, ga⟩ := h0 _ _ _ (by simpa [o0, k0] using hf 0 f0 rfl)
      obtain ⟨b, hb, gb⟩ := h1 _ _ _ (by simpa [o1, k1] using hf 1 f1 rfl)
      obtain ⟨d, hd, gd⟩ := h2 _ _ _ (by simpa [o2, k2] using hf 2 f2 rfl)
      exact ⟨(a, b, d), by simp_all, ga, gb, gd⟩
theorem opens_struct4 {α β γ δ : Type} {e : TypeId} {f0 f1 f2 f3 : Field} {g0 : α → Value} {g1 : β → Value} {g2 : γ → Value} {g3 : δ → Value} {G0 : α → Prop} {G1 : β → Prop} {G2 : γ → Prop} {G3 : δ → Prop} (hs : P.underlying e = some (.struct #[f0, f1, f2, f3]))
    (hone : oneCellFields P #[f0, f1, f2, f3] = true) (hC : P.cellsOf e = 4) (h0 : Opens enc P w base spare held f0.type (fun a => [g0 a]) G0) (h1 : Opens enc P w base spare held f1.type (fun a => [g1 a]) G1) (h2 : Opens enc P w base spare held f2.type (fun a => [g2 a]) G2) (h3 : Opens enc P w base spare held f3.type (fun a => [g3 a]) G3) :
    Opens enc P w base spare held e (fun p : α × β × γ × δ => [g0 p.1, g1 p.2.1, g2 p.2.2.1, g3 p.2.2.2]) (fun p => G0 p.1 ∧ G1 p.2.1 ∧ G2 p.2.2.1 ∧ G3 p.2.2.2) := by
  intro fuel cs x h
  obtain ⟨ys, n', _, _, hlen, hyl, hf⟩ := DataW.trod_struct hs h
  rw [hC] at hlen
  match cs, hlen with
  | [c0, c1, c2, c3], _ =>
    obtain ⟨o0, k0⟩ := hone_of hone 0 f0 rfl
    obtain ⟨o1, k1⟩ := hone_of hone 1 f1 rfl
    obtain ⟨o2, k2⟩ := hone_of hone 2 f2 rfl
    obtain ⟨o3, k3⟩ := hone_of hone 3 f3 rfl
    match ys, hyl with
    | [y0, y1, y2, y3], _ =>
      obtain ⟨a, ha, ga⟩ := h0 _ _ _ (by simpa [o0, k0] using hf 0 f0 rfl)
      obtain ⟨b, hb, gb⟩ := h1 _ _ _ (by simpa [o1, k1] using hf 1 f1 rfl)
      obtain ⟨d, hd, gd⟩ := h2 _ _ _ (by simpa [o2, k2] using hf 2 f2 rfl)
      obtain ⟨q, hq, gq⟩ := h3 _ _ _ (by simpa [o3, k3] using hf 3 f3 rfl)
      exact ⟨(a, b, d, q), by simp_all, ga, gb, gd, gq⟩

/-- An argument of whatever one-cell type, by its reading. -/
theorem open_one {α : Type} {t : TypeId} {g : α → Value} {G : α → Prop} {v : Value} {d : DataW H} {p : List MemPlace} (ho : Opens enc P w base spare held t (fun a => [g a]) G) (hv : v.cells = #[v]) (h : DataW.Trod enc P w base spare held t v d p) : ∃ a, v = g a ∧ G a := by
  obtain ⟨fuel, hf⟩ := h
  rw [hv] at hf
  obtain ⟨a, ha, ga⟩ := ho _ _ _ hf
  exact ⟨a, by simpa using ha, ga⟩
/-- A struct argument of two one-cell fields. -/
theorem open_pair {α β : Type} {e : TypeId} {f0 f1 : Field} {g0 : α → Value} {g1 : β → Value} {G0 : α → Prop} {G1 : β → Prop} {r : Reach} {b0 : Nat} {v : Value} {d : DataW H} {p : List MemPlace} (hs : P.underlying e = some (.struct #[f0, f1]))
    (hone : oneCellFields P #[f0, f1] = true) (hC : P.cellsOf e = 2) (h0 : Opens enc P w base spare held f0.type (fun a => [g0 a]) G0) (h1 : Opens enc P w base spare held f1.type (fun a => [g1 a]) G1)
    (hv : Value.okWide P w r b0 e v) (h : DataW.Trod enc P w base spare held e v d p) : ∃ a b, v = .agg #[g0 a, g1 b] ∧ G0 a ∧ G1 b := by
  obtain ⟨cs, rfl, hsz⟩ := okWide_struct hs hv
  obtain ⟨fuel, hf⟩ := h
  obtain ⟨⟨a, b⟩, hab, ga, gb⟩ := opens_struct2 hs hone hC h0 h1 _ _ _ hf
  refine ⟨a, b, ?_, ga, gb⟩
  simp only [Value.cells] at hab
  rw [show cs = #[g0 a, g1 b] from by rw [← Array.toArray_toList (xs := cs), hab]]
end
theorem trod_blocks {H : Type} {enc : TypeId × Value → H} {P : Program} {w : World} {base : Nat} {spare : Nat → Bool} {held : Bool} {t : TypeId} {v : Value} {d : DataW H} {p : List MemPlace} (h : DataW.Trod enc P w base spare held t v d p) : ∀ x ∈ p, x.block < w.heap.size := by
  obtain ⟨m, hm⟩ := h
  exact DataW.trod_lt m _ _ _ hm
end Go.Proofs.Ytdinknpagklkjaa

/- What a net is told to be wrong: the program and the reference compute the one function netCheck. Conditions: the arcs read as a list. -/
namespace Go.Proofs.Ytdinknpagklkjaa
open Go.RowKit

structure Arc where
  f : Int
  t : Int
  m : Int
  e : Int
abbrev Arc.cells (a : Arc) : List Value := [.int .i64 a.f, .int .i64 a.t, .int .i64 a.m, .int .i64 a.e]
def Arc.of (p : Int × Int × Int × Int) : Arc := ⟨p.1, p.2.1, p.2.2.1, p.2.2.2⟩
def arcLoop (N : Int) : List Arc → Int
  | [] => 0
  | a :: l => if a.f < 0 ∨ N ≤ a.f ∨ a.t < 0 ∨ N ≤ a.t then 2 else if a.f = a.t then 3 else if a.m < 0 ∨ 1048576 < a.m ∨ a.e < -1048576 ∨ 1048576 < a.e then 4 else arcLoop N l
def netCheck (N : Int) (l : List Arc) : Int := if N < 0 ∨ 10 < N ∨ 30 < l.length then 1 else arcLoop N l
theorem net_round {N : Int} {l : List Arc} {k : Nat} (hk : k < l.length) (h : arcLoop N (l.drop k) = arcLoop N l) (a : Arc) (ha : a = l[k]) :
    arcLoop N l = if a.f < 0 ∨ N ≤ a.f ∨ a.t < 0 ∨ N ≤ a.t then 2 else if a.f = a.t then 3 else if a.m < 0 ∨ 1048576 < a.m ∨ a.e < -1048576 ∨ 1048576 < a.e then 4 else arcLoop N (l.drop (k + 1)) := by
  rw [← h, drop_at l k hk, arcLoop, ha]

set_option maxRecDepth 100000 in
set_option maxHeartbeats 1000000 in
theorem ref_NetCheck (N : Int) (A : Option Addr) (n c : Nat) (l : List Arc) (w : World) (hl : l.length = n) (hn : n ≤ maxLen) (hr : Els w w.heap.size 4 Arc.cells A l) :
    Calls Try.prog 61 #[.agg #[.int .i64 N, .slice A n c]] w fun e w' => e = .returned (.int .i64 (netCheck N l)) ∧ Below w.heap.size w w' := by
  unfold maxLen at hn
  have HN : Hid (netCheck N l = if N < 0 ∨ 10 < N ∨ 30 < n then 1 else arcLoop N l) := by subst hl; rfl
  have HL := Lib.hid hl
  clear hl
  go_enter Try.func61, Try.ntmps61
  go_wp2
  case' _ =>
    go_ret
    exact ⟨ret_i64 (by rw [HN.out, if_pos (by omega)]), (Below.refl _ _).alloc (Nat.le_refl _) _⟩
  case' _ =>
    go_loopw [22] (fun i wr => ∃ k : Nat, k ≤ n ∧ i = .int .i64 k ∧ Below w.heap.size w wr ∧ Blk wr w.heap.size 64 #[.int .i64 N, .slice A n c] ∧ arcLoop N (l.drop k) = arcLoop N l) (fun i _ => n - (intOf i).toNat)
    case atStart => exact ⟨0, by omega, rfl, (Below.refl _ _).alloc (Nat.le_refl _) _, Blk.new _ _ _, rfl⟩
    case round =>
      obtain ⟨k, hk, rfl, hb, hblk, hl⟩ := hrel
      have hsz := hb.size
      have hlt' := hblk.lt
      have hc0 := hblk.cell 0
      have hc1 := hblk.cell 1
      have HB := Lib.hid hblk
      clear hblk
      by_cases hlt : k < n
      · obtain ⟨b, off, rfl, hbb, g0, g1, g2, g3⟩ := (hr.below hb).at4 (k := k) (by rw [HL.out]; exact hlt)
        obtain ⟨a, ha⟩ : ∃ a, a = l[k]'(by rw [HL.out]; exact hlt) := ⟨_, rfl⟩
        have HR := Lib.hid (net_round (by rw [HL.out]; exact hlt) hl a ha)
        rw [← ha] at g0 g1 g2 g3
        have HK := Lib.hid hl
        clear ha hl hr
        go_wp2
        all_goals first
          | (go_ret
             exact ⟨ret_i64 (by
               rw [HN.out, if_neg (by omega), HR.out]
               try simp only [beq_iff_eq, beq_eq_false_iff_ne, ne_eq, Bool.not_eq_true', Bool.not_eq_false', decide_eq_true_eq, decide_eq_false_iff_not] at *
               repeat' split
               all_goals first | rfl | (exfalso; omega)), hb.alloc hsz _⟩)
          | (refine ⟨?rel, ?measure⟩
             case rel =>
               refine ⟨k + 1, by omega, by go_num, hb.alloc hsz _, HB.out.alloc _, ?_⟩
               rw [HR.out]
               try simp only [beq_iff_eq, beq_eq_false_iff_ne, ne_eq, Bool.not_eq_true', Bool.not_eq_false', decide_eq_true_eq, decide_eq_false_iff_not] at *
               repeat' split
               all_goals first | rfl | (exfalso; omega)
             case measure => simp [intOf]; omega)
      · have hl' : l.drop k = [] := List.drop_eq_nil_of_le (by rw [HL.out]; omega)
        rw [hl'] at hl
        have HK := Lib.hid hl
        clear hl
        go_wp2
        go_ret
        exact ⟨ret_i64 (by rw [HN.out, if_neg (by omega), ← HK.out]; rfl), hb⟩
  all_goals
    go_ret
    exact ⟨ret_i64 (by rw [HN.out, if_pos (by omega)]), (Below.refl _ _).alloc (Nat.le_refl _) _⟩
set_option maxRecDepth 100000 in
set_option maxHeartbeats 1000000 in
theorem flow_Check (N : Int) (A : Option Addr) (n c : Nat) (l : List Arc) (w : World) (hl : l.length = n) (hn : n ≤ maxLen) (hr : Els w w.heap.size 4 Arc.cells A l) :
    Calls Try.prog 123 #[.agg #[.int .i64 N, .slice A n c]] w fun e w' => e = .returned (.int .i64 (netCheck N l)) ∧ Below w.heap.size w w' := by
  unfold maxLen at hn
  have HN : Hid (netCheck N l = if N < 0 ∨ 10 < N ∨ 30 < n then 1 else arcLoop N l) := by subst hl; rfl
  have HL := Lib.hid hl
  clear hl
  go_enter Try.func123, Try.ntmps123
  go_wp2
  case' _ =>
    go_ret
    exact ⟨ret_i64 (by rw [HN.out, if_pos (by omega)]), (Below.refl _ _).alloc (Nat.le_refl _) _⟩
  case' _ =>
    go_loopw [24] (fun i wr => ∃ k : Nat, k ≤ n ∧ i = .int .i64 k ∧ Below w.heap.size w wr ∧ Blk wr w.heap.size 64 #[.int .i64 N, .slice A n c] ∧ arcLoop N (l.drop k) = arcLoop N l) (fun i _ => n - (intOf i).toNat)
    case atStart => exact ⟨0, by omega, rfl, (Below.refl _ _).alloc (Nat.le_refl _) _, Blk.new _ _ _, rfl⟩
    case round =>
      obtain ⟨k, hk, rfl, hb, hblk, hl⟩ := hrel
      have hsz := hb.size
      have hlt' := hblk.lt
      have hc0 := hblk.cell 0
      have hc1 := hblk.cell 1
      have HB := Lib.hid hblk
      clear hblk
      by_cases hlt : k < n
      · obtain ⟨b, off, rfl, hbb, g0, g1, g2, g3⟩ := (hr.below hb).at4 (k := k) (by rw [HL.out]; exact hlt)
        obtain ⟨a, ha⟩ : ∃ a, a = l[k]'(by rw [HL.out]; exact hlt) := ⟨_, rfl⟩
        have HR := Lib.hid (net_round (by rw [HL.out]; exact hlt) hl a ha)
        rw [← ha] at g0 g1 g2 g3
        have HK := Lib.hid hl
        clear ha hl hr
        go_wp2
        all_goals first
          | (go_ret
             exact ⟨ret_i64 (by
               rw [HN.out, if_neg (by omega), HR.out]
               try simp only [beq_iff_eq, beq_eq_false_iff_ne, ne_eq, Bool.not_eq_true', Bool.not_eq_false', decide_eq_true_eq, decide_eq_false_iff_not] at *
               repeat' split
               all_goals first | rfl | (exfalso; omega)), hb.alloc hsz _⟩)
          | (refine ⟨?rel, ?measure⟩
             case rel =>
               refine ⟨k + 1, by omega, by go_num, hb.alloc hsz _, HB.out.alloc _, ?_⟩
               rw [HR.out]
               try simp only [beq_iff_eq, beq_eq_false_iff_ne, ne_eq, Bool.not_eq_true', Bool.not_eq_false', decide_eq_true_eq, decide_eq_false_iff_not] at *
               repeat' split
               all_goals first | rfl | (exfalso; omega)
             case measure => simp [intOf]; omega)
      · have hl' : l.drop k = [] := List.drop_eq_nil_of_le (by rw [HL.out]; omega)
        rw [hl'] at hl
        have HK := Lib.hid hl
        clear hl
        go_wp2
        go_ret
        exact ⟨ret_i64 (by rw [HN.out, if_neg (by omega), ← HK.out]; rfl), hb⟩
  all_goals
    go_ret
    exact ⟨ret_i64 (by rw [HN.out, if_pos (by omega)]), (Below.refl _ _).alloc (Nat.le_refl _) _⟩
end Go.Proofs.Ytdinknpagklkjaa

/- What is wrong with a net, or with two nodes: the program and the reference compute the one function endsCheck. Conditions: the arcs read as a list. -/
namespace Go.Proofs.Ytdinknpagklkjaa
open Go.RowKit

def endsCheck (N : Int) (l : List Arc) (s t : Int) : Int := if netCheck N l = 0 then (if s < 0 ∨ N ≤ s ∨ t < 0 ∨ N ≤ t ∨ s = t then 2 else 0) else netCheck N l

set_option maxRecDepth 100000 in
set_option maxHeartbeats 1000000 in
theorem flow_Ends (N s t : Int) (A : Option Addr) (n c : Nat) (l : List Arc) (w : World) (hl : l.length = n) (hn : n ≤ maxLen) (hr : Els w w.heap.size 4 Arc.cells A l) :
    Calls Try.prog 97 #[.agg #[.int .i64 N, .slice A n c], .int .i64 s, .int .i64 t] w fun e w' => e = .returned (.int .i64 (endsCheck N l s t)) ∧ Below w.heap.size w w' := by
  have HC : Hid (Calls Try.prog 123 #[.agg #[.int .i64 N, .slice A n c]] (w.alloc (.cells #[.int .i64 N, .slice A n c] 64)) fun e w' => e = .returned (.int .i64 (netCheck N l)) ∧ Below (w.heap.size + 1) (w.alloc (.cells #[.int .i64 N, .slice A n c] 64)) w') := by
    have := flow_Check N A n c l (w.alloc (.cells #[.int .i64 N, .slice A n c] 64)) hl hn ((hr.alloc (Nat.le_refl _) _).more (by rw [size_alloc']; omega))
    rwa [size_alloc'] at this
  have HB := Lib.hid ((Below.refl w.heap.size w).alloc (Nat.le_refl _) (.cells #[.int .i64 N, .slice A n c] 64))
  have HK := Lib.hid (Blk.new w 64 #[.int .i64 N, .slice A n c])
  clear hl hn hr
  go_enter Try.func97, Try.ntmps97
  go_wp2_with fail
  refine HC.out.mono ?_
  clear HC
  rintro e v1 ⟨rfl, hb⟩
  have HB1 := Lib.hid (HB.out.trans (hb.mono (by omega)))
  have c0 := (HK.out.below hb (by omega)).cell 0
  clear hb HB HK
  by_cases h0 : netCheck N l = 0
  · have HE : Hid (endsCheck N l s t = if s < 0 ∨ N ≤ s ∨ t < 0 ∨ N ≤ t ∨ s = t then 2 else 0) := if_pos h0
    rw [h0]
    clear h0
    go_wp2
    all_goals
      go_ret
      exact ⟨ret_i64 (by
        rw [HE.out]
        try simp only [beq_iff_eq, beq_eq_false_iff_ne, ne_eq, Bool.not_eq_true', Bool.not_eq_false', decide_eq_true_eq, decide_eq_false_iff_not] at *
        split
        all_goals first | rfl | (exfalso; omega)), HB1.out⟩
  · have HE : Hid (endsCheck N l s t = netCheck N l) := if_neg h0
    have h1 : (netCheck N l != 0) = true := by simpa using h0
    generalize netCheck N l = x at HE h1 h0
    clear h0
    go_wp2_with fail
    go_ret
    exact ⟨ret_i64 (by rw [HE.out]), HB1.out⟩

set_option maxRecDepth 100000 in
set_option maxHeartbeats 1000000 in
theorem ref_EndsCheck (N s t : Int) (A : Option Addr) (n c : Nat) (l : List Arc) (w : World) (hl : l.length = n) (hn : n ≤ maxLen) (hr : Els w w.heap.size 4 Arc.cells A l) :
    Calls Try.prog 30 #[.agg #[.int .i64 N, .slice A n c], .int .i64 s, .int .i64 t] w fun e w' => e = .returned (.int .i64 (endsCheck N l s t)) ∧ Below w.heap.size w w' := by
  have HC : Hid (Calls Try.prog 61 #[.agg #[.int .i64 N, .slice A n c]] (w.alloc (.cells #[.int .i64 N, .slice A n c] 64)) fun e w' => e = .returned (.int .i64 (netCheck N l)) ∧ Below (w.heap.size + 1) (w.alloc (.cells #[.int .i64 N, .slice A n c] 64)) w') := by
    have := ref_NetCheck N A n c l (w.alloc (.cells #[.int .i64 N, .slice A n c] 64)) hl hn ((hr.alloc (Nat.le_refl _) _).more (by rw [size_alloc']; omega))
    rwa [size_alloc'] at this
  have HB := Lib.hid ((Below.refl w.heap.size w).alloc (Nat.le_refl _) (.cells #[.int .i64 N, .slice A n c] 64))
  have HK := Lib.hid (Blk.new w 64 #[.int .i64 N, .slice A n c])
  clear hl hn hr
  go_enter Try.func30, Try.ntmps30
  go_wp2_with fail
  refine HC.out.mono ?_
  clear HC
  rintro e v1 ⟨rfl, hb⟩
  have HB1 := Lib.hid (HB.out.trans (hb.mono (by omega)))
  have c0 := (HK.out.below hb (by omega)).cell 0
  clear hb HB HK
  by_cases h0 : netCheck N l = 0
  · have HE : Hid (endsCheck N l s t = if s < 0 ∨ N ≤ s ∨ t < 0 ∨ N ≤ t ∨ s = t then 2 else 0) := if_pos h0
    rw [h0]
    clear h0
    by_cases h1 : s < 0
    · go_wp2_with fail
      go_ret
      exact ⟨ret_i64 (by rw [HE.out, if_pos (by omega)]), HB1.out⟩
    by_cases h2 : N ≤ s
    · go_wp2_with fail
      go_ret
      exact ⟨ret_i64 (by rw [HE.out, if_pos (by omega)]), HB1.out⟩
    by_cases h3 : t < 0
    · go_wp2_with fail
      go_ret
      exact ⟨ret_i64 (by rw [HE.out, if_pos (by omega)]), HB1.out⟩
    by_cases h4 : N ≤ t
    · go_wp2_with fail
      go_ret
      exact ⟨ret_i64 (by rw [HE.out, if_pos (by omega)]), HB1.out⟩
    by_cases h5 : s = t
    · have h5' : (s == t) = true := by simpa using h5
      have HE2 := Lib.hid (HE.out.trans (if_pos (by omega)))
      clear h5
      go_wp2_with fail
      go_ret
      exact ⟨ret_i64 (by rw [HE2.out]), HB1.out⟩
    · have h5' : (s == t) = false := by simpa using h5
      have HE2 := Lib.hid (HE.out.trans (if_neg (by omega)))
      clear h5
      go_wp2_with fail
      go_ret
      exact ⟨ret_i64 (by rw [HE2.out]), HB1.out⟩
  · have HE : Hid (endsCheck N l s t = netCheck N l) := if_neg h0
    have h1 : (netCheck N l == 0) = false := by simpa using h0
    generalize netCheck N l = x at HE h1 h0
    clear h0
    go_wp2_with fail
    go_ret
    exact ⟨ret_i64 (by rw [HE.out]), HB1.out⟩
end Go.Proofs.Ytdinknpagklkjaa
