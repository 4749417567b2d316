/- Keys of maps: ints, words, pairs of ints. Conditions: none. -/
import Derived.Test.YtjkfogkpacmdlaaProg
import Derived.Test.YtjkfogkpacmdlaaFeeLeast17
import Derived.Test.YtjkfogkpacmdlaaFeeLeast6
import Derived.Test.YtjkfogkpacmdlaaFeeLeast29
import Derived.Test.YtjkfogkpacmdlaaFeeLeast30
import Derived.Test.YtjkfogkpacmdlaaFeeLeast32
namespace Go.Proofs.Ytjkfogkpacmdlaa
open Go.RowKit

theorem keyL_int {P : Program} {t : TypeId} (h : P.underlying t = some (.int .i64)) : KeyL P t (fun n : Int => .int .i64 n) where
  chk b a w := MapKept.run_checkKey h (by simp [MapKept.IsKey]) b 9999
  eqv a b w := by
    unfold Op.equal
    rw [show Op.maxDepth = 9999 + 1 from rfl, run_equalIn_int w 9999 t .i64 .i64 a b h]
    rfl
  desc := ⟨_, h, .inr fun a b => by simp [Instr.sameNow]; rfl⟩
  self a := by simp [Instr.sameBits]
theorem keyL_word {P : Program} {t : TypeId} (h : P.underlying t = some (.int .u32)) : KeyL P t (fun x : BitVec 32 => .int .u32 (wN x)) where
  chk b a w := MapKept.run_checkKey h (by simp [MapKept.IsKey]) b 9999
  eqv a b w := by
    unfold Op.equal
    rw [show Op.maxDepth = 9999 + 1 from rfl, run_equalIn_int w 9999 t .u32 .u32 (wN a) (wN b) h, w_eq]
    rfl
  desc := ⟨_, h, .inr fun a b => by simp [Instr.sameNow, w_eq]; rfl⟩
  self a := by simp [Instr.sameBits]
end Go.Proofs.Ytjkfogkpacmdlaa

/- What the search for a way keeps: the queue, the map, the boxes. Conditions: none. -/
namespace Go.Proofs.Ytjkfogkpacmdlaa
open Go.RowKit Go.Shelf

theorem Held.grown2 {ex : List Nat} {a w w' : World} {row : Option Nat} (h : Held ex a w) (hg : w.grownBy w' row) (hr : ∀ g, row = some g → g ∈ ex ∨ a.heap.size ≤ g) : Held ex a w' :=
  ⟨hg.os.trans h.os, hg.tape.trans h.tape, hg.output.trans h.output, Nat.le_trans h.size hg.size, fun k hk hx =>
    (hg.block k (Nat.lt_of_lt_of_le hk h.size) (fun e => by
      rcases hr k e.symm with h1 | h1
      · exact hx h1
      · omega)).trans (h.block k hk hx)⟩
theorem KeepsFrom.held2 {B : Nat} {ex : List Nat} {W W' : World} (h : Held ex W W') (hx : ∀ k ∈ ex, B ≤ k → ∀ o : Obj, W.heap[k]? = some o → o.isCells = true) : KeepsFrom B W W' :=
  ⟨h.size, fun k o hk ho hc => by
    by_cases hm : k ∈ ex
    · have := hx k hm hk o ho
      rw [hc] at this
      cases this
    · exact (h.block k (lt_of_block ho) hm).trans ho⟩
theorem Fifo.cells {w : World} {B cap : Nat} {A : Option Addr} {l : List Int} (h : Fifo w B A cap l) : ∀ g, blkOf A = some g → ∀ o : Obj, w.heap[g]? = some o → o.isCells = true := by
  obtain ⟨g, off, cur, rfl, hB, hb, h1⟩ := h
  intro g' hg o ho
  have : g = g' := by simpa [blkOf] using hg
  subst this
  exact hb.isCells o ho
theorem Fifo.ownk {w w' : World} {B cap : Nat} {A : Option Addr} {l : List Int} {row : Option Nat} (h : Fifo w B A cap l) (hg : w.grownBy w' row) (hr : ∀ r, row = some r → ∃ o : Obj, w.heap[r]? = some o ∧ o.isCells = false) : Fifo w' B A cap l := by
  refine h.kept fun g hgg => hg.block g ((h.lt g hgg).2) fun e => ?_
  obtain ⟨o, ho, hc⟩ := hr g e.symm
  rw [h.cells g hgg o ho] at hc
  cases hc
theorem Fifo.held {w w' : World} {B cap : Nat} {A : Option Addr} {l : List Int} {ex : List Nat} (h : Fifo w B A cap l) (hh : Held ex w w') (hx : ∀ g, blkOf A = some g → g ∉ ex) : Fifo w' B A cap l :=
  h.kept fun g hg => hh.block g ((h.lt g hg).2) (hx g hg)
theorem MapB.held {κ : Type} [DecidableEq κ] {kv : κ → Value} {L : List (κ × Value)} {w w' : World} {r : Nat} {ex : List Nat} (h : MapB w r kv L) (hh : Held ex w w') (hx : r ∉ ex) : MapB w' r kv L :=
  h.same (hh.block r h.lt hx)
theorem GoesB.els {w : World} {g B : Nat} {gs : List Int} (h : GoesB w g gs) (hB : g < B) : Els w B 1 icell (some ⟨g, 0, none⟩) gs := fun _ => by
  refine ⟨g, 0, rfl, hB, fun i a ha j u hu => ?_⟩
  have hi : i < gs.length := (List.getElem?_eq_some_iff.1 ha).1
  have e : gs[i] = a := (List.getElem?_eq_some_iff.1 ha).2
  cases j with
  | zero =>
    have hu' : u = .int .i64 a := by simpa [icell] using hu.symm
    rw [hu', ← e]
    have := h.at_ hi
    rw [getD_at gs i hi] at this
    simpa using this
  | succ j => simp [icell] at hu
/-- How far the search is: a number that falls. -/
def qz (N S : Nat) (v : Value) (w : World) : Nat :=
  N + 2 + (match v with | .pointer (some a) => (match w.cell? a with | some (.slice _ n _) => n | _ => 0) | _ => 0) - (match w.heap[S]? with | some (.map es _) => es.size | _ => 0)
theorem qz_eq {N S Q n cap : Nat} {t : TypeId} {A : Option Addr} {w : World} {κ : Type} [DecidableEq κ] {kv : κ → Value} {L : List (κ × Value)} (hb : Blk w Q t #[.slice A n cap]) (hm : MapB w S kv L) : qz N S (.pointer (some ⟨Q, 0, none⟩)) w = N + 2 + n - L.length := by
  obtain ⟨es, clock, ho, hr⟩ := hm
  have h1 := congrArg List.length hr.1
  simp only [List.length_map, Array.length_toList] at h1
  have hc := hb.cell 0
  unfold qz
  simp [ho, h1, hc]
abbrev kint : Int → Value := fun n => .int .i64 n
theorem keys_le {N : Nat} {l : List Arc} {gs : List Int} {s : Nat} {K : List (Int × Stp)} (h : BfsI l gs s K) (hin : InN N l) (hs : s < N) : K.length + 1 ≤ N := by
  have := nodup_short h.nd (h.low hin hs)
  rwa [keysO_length] at this
abbrev stepC : Stp → List Value := fun x => [.int .i64 x.1, .bool x.2]
theorem StpB.of_own {w : World} {B h cap : Nat} {ws : List Stp} (ho : Own w B 77 2 stepC (some ⟨h, 0, none⟩) cap ws) : ∃ sz, StpB w h sz ws.length (fun i => ws.getD i (0, false)) := by
  have he := ho.els
  obtain ⟨h1, h2, h3⟩ := ho
  rcases h3 with hn | ⟨g', cp, cur, hv, hb, hg, r⟩
  · cases hn.1
  · have : g' = h := by
      simp only [Value.slice.injEq, Option.some.injEq, Addr.mk.injEq] at hv
      exact hv.1.1.symm
    subst this
    refine ⟨cur.size, cur, hg, rfl, fun i hi => ?_⟩
    obtain ⟨b, off, e, _, f0, f1⟩ := Els.at2 (f := fun x : Stp => .int .i64 x.1) (g := fun x : Stp => .bool x.2) he hi
    obtain ⟨rfl, rfl⟩ : g' = b ∧ off = 0 := by
      simp only [Option.some.injEq, Addr.mk.injEq] at e
      exact ⟨e.1, e.2.1.symm⟩
    have hk : Blk w g' 77 cur := hg
    rw [hk.cell] at f0 f1
    simp only [Nat.zero_add] at f0 f1
    simp only [getD_at ws i hi]
    exact ⟨f0, f1⟩
theorem StpB.shut {w w' : World} {h sz n b : Nat} {F : Nat → Stp} (hs : StpB w h sz n F) (hw : Shut b w w') : StpB w' h sz n F := by
  obtain ⟨cur, hb, h1⟩ := hs
  exact ⟨cur, hb.shut hw, h1⟩
theorem MapB.noMark {κ : Type} [DecidableEq κ] {kv : κ → Value} {L : List (κ × Value)} {w : World} {r : Nat} (h : MapB w r kv L) : w.heap[r]? ≠ some (Obj.deferred (some [])) := fun e => by
  obtain ⟨es, c, hb, _⟩ := h
  rw [e] at hb
  cases hb
theorem Blk.noMark {w : World} {g : Nat} {t : TypeId} {cs : Array Value} (h : Blk w g t cs) : w.heap[g]? ≠ some (Obj.deferred (some [])) := fun e => by
  unfold Blk at h
  rw [e] at h
  cases h
end Go.Proofs.Ytjkfogkpacmdlaa
