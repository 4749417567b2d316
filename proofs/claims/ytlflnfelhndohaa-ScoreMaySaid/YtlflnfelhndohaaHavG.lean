/- Making a graph out of degrees: what the program's rounds keep. Conditions: none. -/
import Derived.Test.YtlflnfelhndohaaHavE
import Derived.Test.YtlflnfelhndohaaHavR
import Derived.Test.YtlflnfelhndohaaNats
import Derived.Test.YtlflnfelhndohaaGraphB
namespace Go.Proofs.Ytlflnfelhndohaa
open Go.RowKit Go.Shelf

theorem run_tail2 {P : Program} {t e : TypeId} (ht : P.underlying t = some (.slice e)) (hs : ∀ w, (sizeOf e).run P w = .ok 2 w) (A : Option Addr) (m cap k : Nat) (hk : k ≤ m) (hm : m ≤ cap) (hb : m < 2 ^ 62) (w : World) :
    (Instr.slice t (.slice A m cap) (some (.int .i64 (k : Int))) none none).run P w = .ok (.slice (if cap = k then A else A.map (·.add (k * 2))) (m - k) (cap - k)) w := by
  have h1 : (0 : Int) ≤ (k : Int) ∧ (k : Int) ≤ (m : Int) := by omega
  have h2 : (0 : Int) ≤ (m : Int) ∧ (m : Int) ≤ (cap : Int) := by omega
  simp [Instr.slice, run_underlying ht, Instr.sliceBounds, Instr.sliceBound, asIntOf, hk, hm, hs, Result.andThen]
  done
theorem Held.grows {g : Nat} {w w' : World} (h : Held [g] w w') : w.grownBy w' (some g) :=
  ⟨h.os, h.tape, h.output, h.size, fun k hk hx => h.block k hk (fun hm => hx (by rw [List.mem_singleton.1 hm]))⟩
theorem own_own_ne {α β : Type} {w : World} {B B' c c' cap cap' g k : Nat} {e t : TypeId} {f : α → List Value} {f' : β → List Value} {l : List α} {l' : List β} (h : Own w B e c f (some ⟨g, 0, none⟩) cap l) (hk : Own w B' t c' f' (some ⟨k, 0, none⟩) cap' l') (hne : e ≠ t) : g ≠ k := by
  rcases hk.2.2 with ⟨hv, _⟩ | ⟨g', cp, cur, hv, hb, hh, _⟩
  · cases hv
  · injection hv with h1 h2 h3
    injection h1 with h1
    injection h1 with h1 _ _
    subst h1
    exact own_blk_ne h (show Blk w k t cur from hh) hne
theorem Own.some_ {α : Type} {w : World} {B c cap : Nat} {e : TypeId} {f : α → List Value} {A : Option Addr} {l : List α} (h : Own w B e c f A cap l) {g : Nat} (hg : blkOf A = some g) : A = some ⟨g, 0, none⟩ := by
  rcases h.2.2 with ⟨hv, _⟩ | ⟨g', cp, cur, hv, _⟩
  · injection hv with h1 _ _
    rw [h1] at hg
    cases hg
  · injection hv with h1 _ _
    rw [h1] at hg ⊢
    have : g' = g := by simpa [blkOf] using hg
    rw [this]
theorem Own.le_max {α : Type} {w : World} {B c cap : Nat} {e : TypeId} {f : α → List Value} {A : Option Addr} {l : List α} (h : Own w B e c f A cap l) : l.length ≤ maxLen := by
  rcases h.2.2 with ⟨_, h0⟩ | ⟨g, cp, cur, _, _, _, hn, hm, _⟩
  · rw [h0]; unfold maxLen; omega
  · exact Nat.le_trans hn hm
/-- The nodes of the degrees. -/
def nodesTo (sc : List Int) (k : Nat) : List Nd := (List.range k).map fun i : Nat => ⟨i, sc.getD i 0⟩
def badD (n : Nat) (x : Int) : Bool := decide (x < 0 ∨ (n : Int) ≤ x)
theorem nodesTo_len (sc : List Int) (k : Nat) : (nodesTo sc k).length = k := mapR_len _ _
theorem nodesTo_succ (sc : List Int) (k : Nat) : nodesTo sc (k + 1) = nodesTo sc k ++ [⟨k, sc.getD k 0⟩] := map_range_succ _ k
/-- The nodes at hand. -/
def NodesAt (w : World) (B : Nat) (As : Option Addr) (cs : Nat) (L : List Nd) : Prop := (As = none ∧ cs = 0 ∧ L = []) ∨ ∃ g o cp pre, As = some ⟨g, o, none⟩ ∧ L.length ≤ cs ∧ OwnAt w B g o cp pre L
def exN (As : Option Addr) : List Nat := match As with | none => [] | some a => [a.block]
theorem sort_any (L : List Nd) (As : Option Addr) (m cs B : Nat) (w : World) (hm : L.length = m) (h8 : m ≤ 12) (hok : ∀ a ∈ L, 0 ≤ a.i ∧ a.i < 16) (h : NodesAt w B As cs L) (hB : B ≤ w.heap.size) :
    Calls Try.prog 45 #[.slice As m cs, .func (.func 46) #[] #[]] w fun e w' => (∃ v, e = .returned v) ∧ Held (exN As) w w' ∧ NodesAt w' B As cs (srtN L) := by
  have hok2 : ∀ k, k < m → 0 ≤ (nAt L k).i ∧ (nAt L k).i < 16 := fun k hk => by
    unfold nAt
    rw [getD_at L k (by omega)]
    exact hok _ (List.getElem_mem _)
  rcases h with ⟨rfl, rfl, rfl⟩ | ⟨g, o, cp, pre, rfl, hc, h⟩
  · obtain rfl : 0 = m := hm
    refine (sort_nodes [] none 0 0 w.heap.size w rfl (by omega) hok2 (Own.nil w w.heap.size 96 (c := 2) (f := Nd.cells) (fun _ => rfl)) (Nat.le_refl _)).mono ?_
    rintro e w' ⟨h1, h2, _⟩
    exact ⟨h1, ⟨h2.os, h2.tape, h2.output, h2.size, fun k hk _ => h2.block k hk⟩, .inl ⟨rfl, rfl, rfl⟩⟩
  · refine (sort_at L pre g o m cp cs B w hm h8 hok2 h hB).mono ?_
    rintro e w' ⟨h1, h2, h3⟩
    exact ⟨h1, h2, .inr ⟨g, o, cp, pre, rfl, by rw [srtN_len]; exact hc, h3⟩⟩
theorem OwnAt.put_d {w : World} {B g o cp : Nat} {pre L : List Nd} (h : OwnAt w B g o cp pre L) {k : Nat} (hk : k < L.length) (d : Int) : OwnAt (w.setCell ⟨g, o + k * 2 + 1, none⟩ (.int .i64 d)) B g o cp pre (L.set k ⟨L[k].i, d⟩) := by
  refine ⟨?_, h.off⟩
  have hk2 : pre.length + k < (pre ++ L).length := by rw [List.length_append]; omega
  refine ⟨fun _ => rfl, ?_⟩
  have h1 := (h.own.2.stored ((pre.length + k) * 2 + 1) (.int .i64 d)).1
  have e2 : (pre.length + k) * 2 = o + k * 2 := by rw [h.off]; omega
  have e3 : ((pre ++ L).flatMap Nd.cells).set ((pre.length + k) * 2 + 1) (.int .i64 d) = (pre ++ L.set k ⟨L[k].i, d⟩).flatMap Nd.cells := by
    have h2 := flat2_set (f := fun a : Nd => .int .i64 a.i) (g := fun a : Nd => .int .i64 a.d) (pre ++ L) (pre.length + k) ⟨L[k].i, d⟩ hk2
    rw [List.set_append_right _ _ (by omega), show pre.length + k - pre.length = k by omega] at h2
    refine Eq.trans ?_ h2
    have h3 : ((pre ++ L).flatMap fun a : Nd => [Value.int .i64 a.i, Value.int .i64 a.d]).set ((pre.length + k) * 2) (.int .i64 L[k].i) = (pre ++ L).flatMap fun a : Nd => [Value.int .i64 a.i, Value.int .i64 a.d] := by
      refine List.ext_getElem (by simp) fun i h4 h5 => ?_
      rw [List.getElem_set]
      split
      · rename_i he
        subst he
        have h6 := flat_at (f := fun a : Nd => [Value.int .i64 a.i, Value.int .i64 a.d]) (c := 2) (fun _ => rfl) (pre ++ L) (pre.length + k) L[k] (by rw [List.getElem?_append_right (by omega), show pre.length + k - pre.length = k by omega, List.getElem?_eq_getElem hk]) 0 (.int .i64 L[k].i) rfl
        rw [Nat.add_zero, List.getElem?_eq_getElem h5] at h6
        exact (Option.some.inj h6).symm
      · rfl
    rw [h3]
  rw [e2] at h1 e3
  rw [e3] at h1
  have e4 : (pre ++ L.set k ⟨L[k].i, d⟩).length = (pre ++ L).length := by simp
  rw [e4]
  exact h1
def edE (E : List (Int × Int)) : List Ed := E.map fun p => ⟨p.1, p.2, 0⟩
theorem edE_len (E : List (Int × Int)) : (edE E).length = E.length := List.length_map ..
structure MakeK (n S T : Nat) (w : World) (E : List (Int × Int)) (Ae : Option Addr) (ce : Nat) (wr : World) : Prop where
  b : Below S w wr
  z : T + 1 ≤ wr.heap.size
  st : S + 1 ≤ T
  k : Blk wr S 24 #[.int .i64 0, .slice none 0 0]
  g : Blk wr T 24 #[.int .i64 n, .slice Ae E.length ce]
  e : Own wr (T + 1) 69 3 Ed.cells Ae ce (edE E)
section
variable {n S T : Nat} {w : World} {E : List (Int × Int)} {Ae : Option Addr} {ce : Nat} {wr w' : World}
theorem MakeK.held (h : MakeK n S T w E Ae ce wr) {B g o cp : Nat} {pre L : List Nd} (ho : OwnAt wr B g o cp pre L) (hB : S + 1 ≤ B) (hh : Held [g] wr w') : MakeK n S T w E Ae ce w' := by
  have hg := (own_lt ho.own).1
  have hgT : T ∉ [g] := fun hm => own_blk_ne ho.own h.g (by decide) (List.mem_singleton.1 hm).symm
  have hz := h.z
  have hst := h.st
  have hs := hh.size
  refine ⟨h.b.trans (hh.to (by omega) (fun k hk => by have := List.mem_singleton.1 hk; omega)), by omega, hst, Blk.held hh h.k (fun hm => by have := List.mem_singleton.1 hm; omega), Blk.held hh h.g hgT, ?_⟩
  refine h.e.kept hh.grows ?_
  cases hA : blkOf Ae with
  | none => exact .inl rfl
  | some k =>
    right
    intro he
    have he : k = g := by simpa using he
    have hA2 := h.e.some_ hA
    have h3 := h.e
    rw [hA2] at h3
    exact own_own_ne ho.own h3 (by decide) he.symm
theorem MakeK.alloc (h : MakeK n S T w E Ae ce wr) (o : Obj) : MakeK n S T w E Ae ce (wr.alloc o) := by
  have hz := h.z
  have hst := h.st
  exact ⟨h.b.alloc (by omega) o, by rw [size_alloc']; omega, hst, h.k.alloc o, h.g.alloc o, h.e.alloc o⟩
theorem MakeK.drew (h : MakeK n S T w E Ae ce wr) : MakeK n S T w E Ae ce wr.drew := ⟨h.b.drew, h.z, h.st, h.k, h.g, h.e⟩
/-- One edge more. -/
theorem MakeK.push (h : MakeK n S T w E Ae ce wr) {A' : Option Addr} {cap' : Nat} {p : Int × Int} (ho : Own w' (T + 1) 69 3 Ed.cells A' cap' (edE E ++ [⟨p.1, p.2, 0⟩])) (hg : wr.grownBy w' (blkOf Ae)) : MakeK n S T w (E ++ [p]) A' cap' (w'.setCell ⟨T, 1, none⟩ (.slice A' (E.length + 1) cap')) := by
  have hz := h.z
  have hst := h.st
  have hs := hg.size
  have hlt := h.e.lt
  have hsz : ∀ (w : World) (p : Addr) (u : Value), (w.setCell p u).heap.size = w.heap.size := fun w p u => by simp [World.setCell]
  refine ⟨(h.b.grown hg (by omega) (fun k hk => by have := (hlt k hk).1; omega)).setCell (p := ⟨T, 1, none⟩) (show S ≤ T by omega) _, by rw [hsz]; omega, hst, ?_, ?_, ?_⟩
  · exact (h.k.grown hg (fun e => by have := (hlt S e.symm).1; omega)).far (p := ⟨T, 1, none⟩) (show S ≠ T by omega) _
  · have := (h.g.grown hg (fun e => by have := (hlt T e.symm).1; omega)).put 1 (.slice A' (E.length + 1) cap')
    rw [List.length_append]
    exact this
  · have e : edE E ++ [⟨p.1, p.2, 0⟩] = edE (E ++ [p]) := by unfold edE; rw [List.map_append]; rfl
    rw [e] at ho
    exact ho.low (p := ⟨T, 1, none⟩) (show T < T + 1 by omega) _
end
/-- What the program hands back. -/
def MadeIs (sc : List Int) (n : Nat) (e : Ending) (w' : World) : Prop :=
  ((∃ k, k < n ∧ badD n (sc.getD k 0) = true) ∨ hkF (n + 1) (nodesTo sc n) = none → e = .returned (.tuple #[.agg #[.int .i64 0, .slice none 0 0], .int .i64 5])) ∧
  (∀ E, (∀ k, k < n → badD n (sc.getD k 0) = false) → hkF (n + 1) (nodesTo sc n) = some E → ∃ Ae cap, e = .returned (.tuple #[.agg #[.int .i64 n, .slice Ae E.length cap], .int .i64 0]) ∧ E.length ≤ maxLen ∧ Els w' w'.heap.size 3 Ed.cells Ae (edE E))
structure MakeI (sc : List Int) (n S T : Nat) (w : World) (L : List Nd) (E : List (Int × Int)) (Ae : Option Addr) (ce : Nat) (As : Option Addr) (cs : Nat) (wr : World) : Prop where
  m : MakeK n S T w E Ae ce wr
  nd : NodesAt wr (S + 1) As cs L
  hk : hkF (n + 1) (nodesTo sc n) = (hkF (L.length + 1) L).map (E ++ ·)
  lt : L.length ≤ n
  sz : E.length ≤ (n - L.length) * 10
  at_ : ∀ a ∈ L, 0 ≤ a.i ∧ a.i < n ∧ 0 ≤ a.d ∧ a.d < n
/-- The end: all that was made is handed back. -/
theorem made_end {sc : List Int} {n S T : Nat} {w : World} {E : List (Int × Int)} {Ae : Option Addr} {ce : Nat} {wr : World} {e : Ending} (h : MakeK n S T w E Ae ce wr) (hgood : ∀ k, k < n → badD n (sc.getD k 0) = false) (hk : hkF (n + 1) (nodesTo sc n) = some E)
    (he : e = .returned (.tuple #[.agg #[.int .i64 n, .slice Ae E.length ce], .int .i64 0])) (w' : World) (hw : w' = (wr.setCell ⟨S, 0, none⟩ (.int .i64 n)).setCell ⟨S, 1, none⟩ (.slice Ae E.length ce)) : MadeIs sc n e w' ∧ Below S w w' := by
  have hst := h.st
  subst hw
  refine ⟨⟨fun hh => ?_, fun E' _ hE => ?_⟩, (h.b.setCell (p := ⟨S, 0, none⟩) (Nat.le_refl _) _).setCell (p := ⟨S, 1, none⟩) (Nat.le_refl _) _⟩
  · rcases hh with ⟨k, hk, hb⟩ | hh
    · rw [hgood k hk] at hb; cases hb
    · rw [hk] at hh; cases hh
  · rw [hk] at hE
    obtain rfl := Option.some.inj hE
    exact ⟨Ae, ce, he, by have := h.e.le_max; rwa [edE_len] at this, ((h.e.low (p := ⟨S, 0, none⟩) (show S < T + 1 by omega) _).low (p := ⟨S, 1, none⟩) (show S < T + 1 by omega) _).els⟩
theorem made_no {sc : List Int} {n : Nat} {e : Ending} {w' : World} (hk : hkF (n + 1) (nodesTo sc n) = none) (he : e = .returned (.tuple #[.agg #[.int .i64 0, .slice none 0 0], .int .i64 5])) : MadeIs sc n e w' :=
  ⟨fun _ => he, fun E _ hE => by rw [hk] at hE; cases hE⟩
theorem decN_len (d : Nat) (R : List Nd) : (decN d R).length = R.length := by
  have := congrArg List.length (decN_i d R)
  rwa [List.length_map, List.length_map] at this
theorem decN_get {R : List Nd} {k : Nat} (hk : k < R.length) : (decN k R)[k]'(by rw [decN_len]; exact hk) = R[k] := by
  unfold decN
  rw [List.getElem_append_right (by rw [List.length_map, List.length_take]; omega), List.getElem_drop]
  congr 1
  rw [List.length_map, List.length_take]; omega
theorem decN_set {R : List Nd} {k : Nat} (hk : k < R.length) : (decN k R).set k ⟨R[k].i, R[k].d - 1⟩ = decN (k + 1) R := by
  unfold decN
  rw [List.take_succ_eq_append_getElem hk, List.map_append, List.drop_eq_getElem_cons hk, List.set_append_right _ _ (by rw [List.length_map, List.length_take]; omega)]
  have e : k - ((R.take k).map fun a => (⟨a.i, a.d - 1⟩ : Nd)).length = 0 := by rw [List.length_map, List.length_take]; omega
  rw [e, List.set_cons_zero, List.append_assoc]
  rfl
theorem decN_zero (R : List Nd) : decN 0 R = R := by unfold decN; simp
end Go.Proofs.Ytlflnfelhndohaa
