/- append to a slice that is cut to its length: a new row; the cut 's[:len(s):len(s)]'. Conditions: ints. -/
import Derived.Test.YtlflnfelhndohaaOwnIn
import Derived.Test.YtlflnfelhndohaaCells
namespace Go.Proofs.Ytlflnfelhndohaa
open Go.RowKit Go.Shelf

theorem els_kept {α : Type} {f : α → List Value} {X Y : World} {row : Option Nat} {R : Option Addr} {l : List α} {c : Nat} (hf : ∀ a, (f a).length = c) (hc0 : 0 < c) (h : Els X X.heap.size c f R l) (hg : X.grownBy Y row) (hrow : ∀ r, row = some r → ∃ o : Obj, X.heap[r]? = some o ∧ o.isCells = false) : Els Y Y.heap.size c f R l := fun h0 => by
  obtain ⟨b, off, e, hb, hc⟩ := h h0
  have hne : some b ≠ row := fun he => by
    obtain ⟨o, ho, hcl⟩ := hrow b he.symm
    have hx := hc 0 l[0] (by rw [List.getElem?_eq_getElem h0]) 0 ((f l[0])[0]'(by rw [hf]; exact hc0)) (by rw [List.getElem?_eq_getElem])
    unfold World.cell? at hx
    simp only [ho] at hx
    cases o <;> first | (cases hcl; done) | (cases hx; done)
  refine ⟨b, off, e, Nat.lt_of_lt_of_le hb hg.size, fun k a ha j u hu => ?_⟩
  have := hc k a ha j u hu
  unfold World.cell? at this ⊢
  rw [hg.block b hb hne]
  exact this

theorem els_shut {α : Type} {f : α → List Value} {X Y : World} {B : Nat} {R : Option Addr} {l : List α} {c : Nat} (hf : ∀ a, (f a).length = c) (hc0 : 0 < c) (h : Els X X.heap.size c f R l) (hs : Shut B X Y) : Els Y Y.heap.size c f R l := fun h0 => by
  obtain ⟨b, off, e, hb, hc⟩ := h h0
  have hx := hc 0 l[0] (by rw [List.getElem?_eq_getElem h0]) 0 ((f l[0])[0]'(by rw [hf]; exact hc0)) (by rw [List.getElem?_eq_getElem])
  unfold World.cell? at hx
  cases ho : X.heap[b]? with
  | none => simp only [ho] at hx; cases hx
  | some o =>
    have hne : o ≠ Obj.deferred (some []) := fun he => by
      subst he
      simp only [ho] at hx
      cases hx
    have hy := hs.2 b o ho hne
    refine ⟨b, off, e, Nat.lt_of_lt_of_le hb hs.1.size, fun k a ha j u hu => ?_⟩
    have := hc k a ha j u hu
    unfold World.cell? at this ⊢
    rw [hy, ← ho]
    exact this
theorem els_far {w : World} {R : Option Addr} {l : List Int} {g : Nat} {t : TypeId} {sv : Value} (h : Els w w.heap.size 1 icell R l) (hk : Blk w g t #[sv]) (hne : ∀ z, sv ≠ .int .i64 z) (v : Value) : Els (w.setCell ⟨g, 0, none⟩ v) (w.setCell ⟨g, 0, none⟩ v).heap.size 1 icell R l := fun h0 => by
  obtain ⟨b, off, e, hb, hc⟩ := h h0
  have hbg : b ≠ g := by
    rintro rfl
    have hx := hc 0 l[0] (by rw [List.getElem?_eq_getElem h0]) 0 _ rfl
    rw [hk.cell] at hx
    rw [show off + 0 * 1 + 0 = off from by omega] at hx
    cases off with
    | zero => simp at hx; exact hne _ hx
    | succ o => simp at hx
  refine ⟨b, off, e, by simpa [World.setCell] using hb, fun k a ha j u hu => ?_⟩
  have := hc k a ha j u hu
  unfold World.cell? at this ⊢
  rw [Below.heap_setCell w ⟨g, 0, none⟩ v b hbg]
  exact this
theorem wp_append_run {P : Program} {o : Oper} {a : Act} {w : World} {K : Act → World → Prop} {Q : Exit → Act → World → Prop} (s x : Operand) (t : TypeId) (ho : o.op = .call { callee := .builtin .append, args := #[s, x], argTypes := #[t, t] })
    (vs vx : Value) (hs : a.eval s = vs) (hx : a.eval x = vx) (v' : Value) (w' : World) (hrun : (Builtin.append_ #[t, t] o.type #[vs, vx]).run P w = .ok v' w') (h : K (a.put o.dst v') w') : o.wp P a w K Q := by
  unfold Oper.wp execOp
  simp only [ho, resolve, invoke, builtin, Sem.run_bind, Sem.run_pure, Result.andThen_ok, List.map_toArray, List.map_cons, List.map_nil, hs, hx, hrun]
  exact h
theorem run_cut_full {P : Program} {t e : TypeId} (ht : P.underlying t = some (.slice e)) {s : Nat} (hs : ∀ w, (sizeOf e).run P w = .ok s w) (A : Option Addr) (m cap : Nat) (hm : m ≤ cap) (w : World) :
    (Instr.slice t (.slice A m cap) none (some (.int .i64 m)) (some (.int .i64 m))).run P w = .ok (.slice A m m) w := by
  have h1 : (0 : Int) ≤ (m : Int) ∧ (m : Int) ≤ (cap : Int) := by omega
  have h2 : (0 : Int) ≤ (m : Int) ∧ (m : Int) ≤ (m : Int) := by omega
  have ha : ∀ p : Addr, p.add 0 = p := fun p => by simp [Addr.add]
  have hA : (if m = 0 then A else A.map (·.add 0)) = A := by
    cases A <;> simp [ha]
  simp [Instr.slice, run_underlying ht, Instr.sliceBounds, Instr.sliceBound, asIntOf, hm, hs, Result.andThen]
  cases A <;> simp [ha]
theorem run_push_full {P : Program} {t ty e : TypeId} {i : TypeInfo} (ht : P.underlying t = some (.slice e)) (hi : P.info? e = some i) (hz : i.zero = some (.int .i64 0)) (hs1 : i.size = 1) (hby : i.bytes = 8)
    (A : Option Addr) (m : Nat) (l : List Int) (hl : l.length = m) (hm : m ≤ 64) (h0 : m = 0 → A = none) (w : World) (BA : Nat) (hr : Els w BA 1 icell A l) (S : Nat) (x : Int) (hx : w.cell? ⟨S, 0, none⟩ = some (.int .i64 x)) :
    ∃ (cap : Nat) (w' : World), (Builtin.append_ #[t, t] ty #[.slice A m m, .slice (some ⟨S, 0, none⟩) 1 1]).run P w = .ok (.slice (some ⟨w.heap.size, 0, none⟩) (m + 1) cap) w' ∧ m + 1 ≤ cap ∧ Below w.heap.size w w' ∧ w'.heap.size = w.heap.size + 1 ∧
      Els w' w'.heap.size 1 icell (some ⟨w.heap.size, 0, none⟩) (l ++ [x]) := by
  have fin : ∀ (w1 : World) (ys : Array Value), w1.heap.size = w.heap.size → (∀ (k : Nat) (a : Int), (l ++ [x])[k]? = some a → ys[k]? = some (Value.int .i64 a)) → Els (w1.alloc (.cells ys e)) (w1.alloc (.cells ys e)).heap.size 1 icell (some ⟨w.heap.size, 0, none⟩) (l ++ [x]) := by
    intro w1 ys hsz hys _
    refine ⟨w.heap.size, 0, rfl, by rw [size_alloc', hsz]; omega, fun k a ha j u hu => ?_⟩
    have hk := Blk.new w1 e ys
    rw [hsz] at hk
    cases j with
    | zero =>
      simp only [List.getElem?_cons_zero, Option.some.injEq] at hu
      subst hu
      have := hk.cell (k * 1)
      rw [show 0 + k * 1 + 0 = k * 1 from by omega, this, Nat.mul_one]
      exact hys k a ha
    | succ j => simp at hu
  have hcapB : ∀ need old bytes, need ≤ 65 → old < need → bytes = 8 → Builtin.nextslicecap need old * bytes ≤ 281474976710656 := fun need old bytes h1 h2 h3 => growslice_fits h2 (by subst h3; omega)
  have hnews : ∀ j v, [Value.int .i64 x][j]? = some v → w.cell? ((⟨S, 0, none⟩ : Addr).add j) = some v := fun j v hv => by
    cases j with
    | zero =>
      simp at hv
      subst hv
      rw [addr_add]
      exact hx
    | succ j => simp at hv
  have hb : ∀ o, Below w.heap.size w (w.drew.alloc o) := fun o => (Below.refl _ w).drew.alloc (Nat.le_refl _) o
  rcases Nat.eq_zero_or_pos m with hm0 | hmp
  · have hA := h0 hm0
    subst hA hm0
    have hln : l = [] := List.length_eq_zero_iff.1 hl
    subst hln
    refine ⟨_, _, run_append_nil w t ty e i _ ht hi hz ⟨S, 0, none⟩ 1 1 [.int .i64 x] (by rw [hs1]; rfl) hnews (by omega) (by omega) (by rw [hby]; omega), ?_, hb _, size_alloc' _ _, ?_⟩
    · exact grownCap_ge _ _ _ _
    · refine fin w.drew _ rfl fun k a ha => ?_
      cases k with
      | zero => simp at ha; subst ha; first | rfl | (rw [Array.getElem?_append_left (by simp)]; rfl)
      | succ k => simp at ha
  · obtain ⟨b, off, rfl, hbb, hc⟩ := hr (by omega)
    have holds : ∀ j v, (l.map fun a => Value.int .i64 a)[j]? = some v → w.cell? ((⟨b, off, none⟩ : Addr).add j) = some v := fun j v hv => by
      rw [List.getElem?_map] at hv
      cases hlj : l[j]? with
      | none => rw [hlj] at hv; cases hv
      | some a =>
        rw [hlj] at hv
        simp at hv
        subst hv
        have := hc j a hlj 0 _ rfl
        rw [addr_add]
        rwa [Nat.mul_one, Nat.add_zero] at this
    refine ⟨_, _, run_append_grow w t ty e i _ ht hi hz ⟨b, off, none⟩ m m (l.map fun a => Value.int .i64 a) (by rw [hs1, List.length_map, hl, Nat.mul_one]) holds ⟨S, 0, none⟩ 1 1 [.int .i64 x] (by rw [hs1]; rfl) hnews (by omega) (by omega) (by rw [hby]; exact hcapB _ _ _ (by omega) (by omega) rfl), ?_, hb _, size_alloc' _ _, ?_⟩
    · exact grownCap_ge _ _ _ _
    · refine fin w.drew _ rfl fun k a ha => ?_
      have hka : (l.map (fun a => Value.int .i64 a) ++ [Value.int .i64 x])[k]? = some (.int .i64 a) := by
        have := congrArg (Option.map fun a => Value.int .i64 a) ha
        rw [← List.getElem?_map] at this
        simpa using this
      rw [Array.getElem?_append_left (by
        have := (List.getElem?_eq_some_iff.1 ha).1
        simpa using this)]
      simpa using hka
end Go.Proofs.Ytlflnfelhndohaa
