/- A map's nodes, edges and faces together are even; in plain Lean. Conditions: the map may be. -/
import Derived.Test.YtlflnfelhndohaaDoorMapsHoles28
namespace Go.Proofs.YtlflnfelhndohaaDoor
open Go.RowKit

def rowAcc (R : List (List Int)) (a : Nat) (acc : List Dart) : Nat → List Dart
  | 0 => acc
  | k + 1 => ((a : Int), (rowI R a).getD k 0) :: rowAcc R a acc k
def dsAcc (R : List (List Int)) : Nat → List Dart
  | 0 => []
  | i + 1 => rowAcc R i (dsAcc R i) (rowI R i).length
def isoN (R : List (List Int)) : Nat → Nat
  | 0 => 0
  | i + 1 => isoN R i + if (rowI R i).length = 0 then 1 else 0
def SeenR (R : List (List Int)) (seen acc : List Dart) : Prop := ∀ y, y ∈ seen ↔ ∃ z ∈ acc, Rcf (nextD R) z y
section
variable {N : Nat} {R : List (List Int)}
theorem SeenR.closed {seen acc : List Dart} (h : SeenR R seen acc) {y : Dart} (hy : y ∈ seen) : nextD R y ∈ seen := by
  obtain ⟨z, hz, hr⟩ := (h y).1 hy
  exact (h _).2 ⟨z, hz, hr.trans (.step (.refl _))⟩
theorem closed_rch {S : List Dart} (hc : ∀ y ∈ S, nextD R y ∈ S) {x y : Dart} (h : Rcf (nextD R) x y) : x ∈ S → y ∈ S := by
  induction h with
  | refl => exact id
  | step _ ih => exact fun hx => ih (hc _ hx)
theorem follow_all (h : MapG N R) : ∀ (f : Nat) {seen : List Dart} {d : Dart}, SeenG N seen → Good2 N R d → f + seen.length = N * N + 1 → (∀ y ∈ seen, nextD R y ∈ seen ∨ nextD R y = d) →
    (∀ y ∈ seen, y ∈ followD R f seen d) ∧ d ∈ followD R f seen d ∧ (∀ y ∈ followD R f seen d, nextD R y ∈ followD R f seen d) ∧ (∀ y ∈ followD R f seen d, y ∈ seen ∨ Rcf (nextD R) d y)
  | 0, seen, d, hs, hd, hf, hc => by have := hs.le; omega
  | f + 1, seen, d, hs, hd, hf, hc => by
    rw [followD]
    split
    · rename_i hm
      exact ⟨fun y hy => hy, hm, fun y hy => (hc y hy).elim id (fun e => e ▸ hm), fun y hy => .inl hy⟩
    · rename_i hm
      obtain ⟨h1, h2, h3, h4⟩ := follow_all h f (hs.snoc hm (good2_in h hd)) (next_good h hd) (by rw [List.length_append]; simp; omega) (fun y hy => by
        rcases List.mem_append.1 hy with hy | hy
        · rcases hc y hy with h5 | h5
          · exact .inl (List.mem_append_left _ h5)
          · exact .inl (by rw [h5]; simp)
        · rw [List.mem_singleton.1 hy]; exact .inr rfl)
      refine ⟨fun y hy => h1 y (List.mem_append_left _ hy), h1 d (by simp), h3, fun y hy => ?_⟩
      rcases h4 y hy with h5 | h5
      · rcases List.mem_append.1 h5 with h5 | h5
        · exact .inl h5
        · rw [List.mem_singleton.1 h5]; exact .inr (.refl _)
      · exact .inr (.step h5)
theorem follow_rch (h : MapG N R) {seen acc : List Dart} {d : Dart} (hs : SeenG N seen) (hd : Good2 N R d) (hr : SeenR R seen acc) : SeenR R (followD R (N * N + 1 - seen.length) seen d) (d :: acc) := by
  obtain ⟨h1, h2, h3, h4⟩ := follow_all h (N * N + 1 - seen.length) hs hd (by have := hs.le; omega) (fun y hy => .inl (hr.closed hy))
  intro y
  constructor
  · intro hy
    rcases h4 y hy with h5 | h5
    · obtain ⟨z, hz, hk⟩ := (hr y).1 h5
      exact ⟨z, List.mem_cons_of_mem _ hz, hk⟩
    · exact ⟨d, List.mem_cons_self .., h5⟩
  · rintro ⟨z, hz, hk⟩
    rcases List.mem_cons.1 hz with e | hz
    · subst e; exact closed_rch h3 hk h2
    · exact h1 y ((hr y).2 ⟨z, hz, hk⟩)
theorem step_rch (h : MapG N R) {st : List Dart × Nat} {acc : List Dart} {d : Dart} (hs : SeenG N st.1) (hd : Good2 N R d) (hr : SeenR R st.1 acc) :
    SeenR R (stepD N R st d).1 (d :: acc) ∧ (stepD N R st d).2 + firsts (nextD R) acc = st.2 + firsts (nextD R) (d :: acc) := by
  rw [stepD, firsts]
  by_cases hm : d ∈ st.1
  · rw [if_pos hm, if_pos ((hr d).1 hm)]
    refine ⟨fun y => ⟨fun hy => ?_, ?_⟩, by omega⟩
    · obtain ⟨z, hz, hk⟩ := (hr y).1 hy
      exact ⟨z, List.mem_cons_of_mem _ hz, hk⟩
    · rintro ⟨z, hz, hk⟩
      rcases List.mem_cons.1 hz with e | hz
      · subst e; exact closed_rch (fun y hy => hr.closed hy) hk hm
      · exact (hr y).2 ⟨z, hz, hk⟩
  · rw [if_neg hm, if_neg (fun hh => hm ((hr d).2 hh))]
    exact ⟨follow_rch h hs hd hr, by show st.2 + 1 + _ = _; omega⟩
theorem row_rch (h : MapG N R) {a : Nat} (ha : a < N) {st : List Dart × Nat} {acc : List Dart} (hs : SeenG N st.1) (hr : SeenR R st.1 acc) : ∀ k, k ≤ (rowI R a).length →
    SeenR R (rowD N R a st k).1 (rowAcc R a acc k) ∧ (rowD N R a st k).2 + firsts (nextD R) acc = st.2 + (if (rowI R a).length = 0 then 1 else 0) + firsts (nextD R) (rowAcc R a acc k)
  | 0, _ => ⟨hr, rfl⟩
  | k + 1, hk => by
    obtain ⟨h1, h2⟩ := row_rch h ha hs hr k (by omega)
    obtain ⟨h3, h4⟩ := step_rch h (row_seen h ha hs k (by omega)).1 (dart_good h ha (k := k) (by omega)) h1
    rw [rowD, rowAcc]
    exact ⟨h3, by omega⟩
theorem faces_rch (h : MapG N R) : ∀ i, i ≤ N → SeenR R (facesD N R i).1 (dsAcc R i) ∧ (facesD N R i).2 = isoN R i + firsts (nextD R) (dsAcc R i)
  | 0, _ => ⟨fun y => Iff.intro (fun hy => nomatch hy) (fun hy => by obtain ⟨z, hz, _⟩ := hy; cases hz), rfl⟩
  | i + 1, hi => by
    obtain ⟨h1, h2⟩ := faces_rch h i (by omega)
    obtain ⟨h3, h4⟩ := row_rch h (a := i) (by omega) (faces_seen h i (by omega)).1 h1 _ (Nat.le_refl _)
    rw [facesD, isoN]
    exact ⟨h3, by rw [dsAcc]; omega⟩
theorem mem_rowAcc {a : Nat} {acc : List Dart} {d : Dart} : ∀ {k}, k ≤ (rowI R a).length → (d ∈ rowAcc R a acc k ↔ d ∈ acc ∨ (d.1 = a ∧ d.2 ∈ (rowI R a).take k))
  | 0, _ => by rw [rowAcc]; simp
  | k + 1, hk => by
    rw [rowAcc, List.mem_cons, mem_rowAcc (k := k) (by omega), List.take_succ_eq_append_getElem (by omega), List.mem_append, List.mem_singleton, getD_at _ k (by omega)]
    constructor
    · rintro (e | e | ⟨e, e2⟩)
      · subst e; exact .inr ⟨rfl, .inr rfl⟩
      · exact .inl e
      · exact .inr ⟨e, .inl e2⟩
    · rintro (e | ⟨e, e2 | e2⟩)
      · exact .inr (.inl e)
      · exact .inr (.inr ⟨e, e2⟩)
      · exact .inl (Prod.ext e e2)
theorem mem_dsAcc {d : Dart} : ∀ {i : Nat}, d ∈ dsAcc R i ↔ 0 ≤ d.1 ∧ d.1 < i ∧ d.2 ∈ rowI R d.1
  | 0 => by rw [dsAcc]; simp; omega
  | i + 1 => by
    rw [dsAcc, mem_rowAcc (Nat.le_refl _), mem_dsAcc (i := i), List.take_length]
    constructor
    · rintro (⟨h1, h2, h3⟩ | ⟨h1, h2⟩)
      · exact ⟨h1, by omega, h3⟩
      · exact ⟨by omega, by omega, by rw [h1]; exact h2⟩
    · rintro ⟨h1, h2, h3⟩
      by_cases h4 : d.1 = i
      · exact .inr ⟨h4, by rw [← h4]; exact h3⟩
      · exact .inl ⟨h1, by omega, h3⟩
theorem rowAcc_nodup {a : Nat} {acc : List Dart} (hn : acc.Nodup) (ha : ∀ d ∈ acc, d.1 ≠ a) (hr : (rowI R a).Nodup) : ∀ k, k ≤ (rowI R a).length → (rowAcc R a acc k).Nodup
  | 0, _ => hn
  | k + 1, hk => by
    rw [rowAcc, List.nodup_cons, mem_rowAcc (by omega)]
    refine ⟨?_, rowAcc_nodup hn ha hr k (by omega)⟩
    rintro (h | ⟨_, h⟩)
    · exact ha _ h rfl
    · dsimp only at h
      rw [getD_at _ k (by omega), List.mem_take_iff_getElem] at h
      obtain ⟨j, hj, he⟩ := h
      exact List.pairwise_iff_getElem.1 (List.nodup_iff_pairwise_ne.1 hr) j k (by omega) (by omega) (by omega) he
theorem dsAcc_nodup (hr : ∀ a : Nat, a < N → (rowI R a).Nodup) : ∀ i, i ≤ N → (dsAcc R i).Nodup
  | 0, _ => List.nodup_nil
  | i + 1, hi => by
    rw [dsAcc]
    exact rowAcc_nodup (dsAcc_nodup hr i (by omega)) (fun d hd => by have := (mem_dsAcc.1 hd).2.1; omega) (hr i (by omega)) _ (Nat.le_refl _)
theorem rowAcc_len {a : Nat} {acc : List Dart} : ∀ k, (rowAcc R a acc k).length = acc.length + k
  | 0 => rfl
  | k + 1 => by rw [rowAcc, List.length_cons, rowAcc_len k]; omega
end
/-- Round a node, by swaps. -/
def rowT (a : Int) : List Int → List (Dart × Dart)
  | x :: y :: r => ((a, x), (a, y)) :: rowT a (y :: r)
  | _ => []
theorem rowT_len (a : Int) : ∀ row : List Int, (rowT a row).length + 1 = row.length + if row.length = 0 then 1 else 0
  | [] => rfl
  | [_] => rfl
  | x :: y :: r => by
    have := rowT_len a (y :: r)
    have h1 : (x :: y :: r).length = (y :: r).length + 1 := rfl
    rw [rowT, List.length_cons, h1, if_neg (by omega)]
    rw [if_neg (by simp)] at this
    omega
theorem rowT_mem (a : Int) : ∀ {row : List Int} {p : Dart × Dart}, row.Nodup → p ∈ rowT a row → p.1.1 = a ∧ p.2.1 = a ∧ p.1.2 ∈ row ∧ p.2.2 ∈ row ∧ p.1.2 ≠ p.2.2
  | [], _, _, h => by cases h
  | [_], _, _, h => by cases h
  | x :: y :: r, p, hn, h => by
    rw [rowT] at h
    rcases List.mem_cons.1 h with h | h
    · subst h
      exact ⟨rfl, rfl, by simp, by simp, fun e => (List.nodup_cons.1 hn).1 (by rw [show x = y from e]; simp)⟩
    · obtain ⟨h1, h2, h3, h4, h5⟩ := rowT_mem a (List.nodup_cons.1 hn).2 h
      exact ⟨h1, h2, List.mem_cons_of_mem _ h3, List.mem_cons_of_mem _ h4, h5⟩
theorem act_off {t : List (Dart × Dart)} {d : Dart} (h : ∀ p ∈ t, d ≠ p.1 ∧ d ≠ p.2) : act t d = d := by
  induction t with
  | nil => rfl
  | cons p t ih =>
    rw [act, ih fun q hq => h q (List.mem_cons_of_mem _ hq)]
    have := h p (List.mem_cons_self ..)
    exact sw_n this.1 this.2
theorem rowT_act (a : Int) : ∀ {row : List Int} {k : Nat}, row.Nodup → k < row.length → act (rowT a row) (a, row.getD k 0) = (a, row.getD ((k + 1) % row.length) 0)
  | [], _, _, h => by simp at h
  | [x], k, _, h => by
    obtain rfl : k = 0 := by simpa using h
    rw [show (0 + 1) % [x].length = 0 from Nat.mod_self 1]
    rfl
  | x :: y :: r, k, hn, h => by
    have hx := (List.nodup_cons.1 hn).1
    have hn' := (List.nodup_cons.1 hn).2
    rw [rowT, act]
    cases k with
    | zero =>
      rw [List.getD_cons_zero, act_off fun p hp => by
        obtain ⟨h1, h2, h3, h4, _⟩ := rowT_mem a hn' hp
        exact ⟨fun e => hx (by rw [show x = p.1.2 from congrArg Prod.snd e]; exact h3), fun e => hx (by rw [show x = p.2.2 from congrArg Prod.snd e]; exact h4)⟩]
      show sw (a, x) (a, y) (a, x) = _
      rw [sw_l, Nat.mod_eq_of_lt (by simp)]
      rfl
    | succ k =>
      have hk : k < (y :: r).length := by simpa using h
      rw [List.getD_cons_succ, rowT_act a hn' hk]
      show sw (a, x) (a, y) _ = _
      by_cases h1 : k + 1 = (y :: r).length
      · rw [h1, Nat.mod_self, show (x :: y :: r).length = (y :: r).length + 1 from rfl, Nat.mod_self]
        show sw (a, x) (a, y) (a, y) = (a, x)
        exact sw_r _ _
      · rw [Nat.mod_eq_of_lt (by omega), Nat.mod_eq_of_lt (show k + 1 + 1 < (x :: y :: r).length by show _ < (y :: r).length + 1; omega), List.getD_cons_succ (n := k + 1)]
        have hk1 : k + 1 < (y :: r).length := by omega
        rw [getD_at (y :: r) (k + 1) hk1]
        refine sw_n (fun e => hx ?_) (fun e => ?_)
        · rw [← (show (y :: r)[k + 1] = x from congrArg Prod.snd e)]; exact List.getElem_mem _
        · have h2 : (y :: r)[k + 1] = y := congrArg Prod.snd e
          rw [List.getElem_cons_succ] at h2
          exact (List.nodup_cons.1 hn').1 (by rw [← h2]; exact List.getElem_mem _)
def rowsT (R : List (List Int)) : Nat → List (Dart × Dart)
  | 0 => []
  | i + 1 => rowT i (rowI R i) ++ rowsT R i
theorem rowsT_mem {R : List (List Int)} {N : Nat} (hr : ∀ a : Nat, a < N → (rowI R a).Nodup) {p : Dart × Dart} : ∀ {i}, i ≤ N → p ∈ rowsT R i → ∃ a : Nat, a < i ∧ p.1.1 = a ∧ p.2.1 = a ∧ p.1.2 ∈ rowI R a ∧ p.2.2 ∈ rowI R a ∧ p.1.2 ≠ p.2.2
  | 0, _, h => by cases h
  | i + 1, hi, h => by
    rw [rowsT] at h
    rcases List.mem_append.1 h with h | h
    · exact ⟨i, by omega, rowT_mem i (hr i (by omega)) h⟩
    · obtain ⟨a, h1, h2⟩ := rowsT_mem hr (i := i) (by omega) h
      exact ⟨a, by omega, h2⟩
theorem rowsT_act {R : List (List Int)} {N : Nat} (hr : ∀ a : Nat, a < N → (rowI R a).Nodup) {a k : Nat} (hk : k < (rowI R a).length) : ∀ {i}, i ≤ N → a < i → act (rowsT R i) ((a : Int), (rowI R a).getD k 0) = ((a : Int), (rowI R a).getD ((k + 1) % (rowI R a).length) 0)
  | 0, _, h => by omega
  | i + 1, hi, h => by
    rw [rowsT, act_append]
    by_cases h1 : a = i
    · subst h1
      rw [act_off (t := rowsT R a) fun p hp => by
        obtain ⟨b, h1, h2, h3, _⟩ := rowsT_mem hr (i := a) (by omega) hp
        exact ⟨fun e => by have := congrArg Prod.fst e; dsimp only at this; omega, fun e => by have := congrArg Prod.fst e; dsimp only at this; omega⟩]
      exact rowT_act a (hr a (by omega)) hk
    · rw [rowsT_act hr hk (i := i) (by omega) (by omega)]
      refine act_off fun p hp => ?_
      obtain ⟨h2, h3, _⟩ := rowT_mem i (hr i (by omega)) hp
      exact ⟨fun e => by have := congrArg Prod.fst e; dsimp only at this; omega, fun e => by have := congrArg Prod.fst e; dsimp only at this; omega⟩
theorem rowsT_len (R : List (List Int)) : ∀ i, (rowsT R i).length + i = (dsAcc R i).length + isoN R i
  | 0 => rfl
  | i + 1 => by
    have h1 := rowsT_len R i
    have h2 := rowT_len i (rowI R i)
    rw [rowsT, dsAcc, isoN, List.length_append, rowAcc_len]
    omega
def edgesT (l : List Ed) : List (Dart × Dart) := l.map fun e => ((e.a, e.b), (e.b, e.a))
def HasE (l : List Ed) (d : Dart) : Prop := ∃ e ∈ l, d = (e.a, e.b) ∨ d = (e.b, e.a)
theorem edgesT_off {l : List Ed} {d : Dart} (h : ¬ HasE l d) : act (edgesT l) d = d := by
  refine act_off fun p hp => ?_
  obtain ⟨e, he, rfl⟩ := List.mem_map.1 hp
  exact ⟨fun k => h ⟨e, he, .inl k⟩, fun k => h ⟨e, he, .inr k⟩⟩
theorem edgesT_act : ∀ {l : List Ed} {d : Dart}, (l.Pairwise fun e f => (e.pair == f.pair) = false) → HasE l d → act (edgesT l) d = (d.2, d.1)
  | [], _, _, ⟨_, h, _⟩ => by cases h
  | e :: l, d, hp, h => by
    obtain ⟨h1, h2⟩ := List.pairwise_cons.1 hp
    show sw (e.a, e.b) (e.b, e.a) (act (edgesT l) d) = (d.2, d.1)
    by_cases h3 : HasE l d
    · rw [edgesT_act h2 h3]
      obtain ⟨f, hf, hk⟩ := h3
      have h4 := h1 f hf
      have h5 : ¬ e.pair = f.pair := by simpa using h4
      refine sw_n (fun k => h5 ?_) (fun k => h5 ?_)
      · have k1 : d.2 = e.a := congrArg Prod.fst k
        have k2 : d.1 = e.b := congrArg Prod.snd k
        unfold Ed.pair
        rcases hk with hk | hk <;> subst hk <;> dsimp only at k1 k2 <;> rw [← k1, ← k2]
        · rw [Int.min_comm, Int.max_comm]
      · have k1 : d.2 = e.b := congrArg Prod.fst k
        have k2 : d.1 = e.a := congrArg Prod.snd k
        unfold Ed.pair
        rcases hk with hk | hk <;> subst hk <;> dsimp only at k1 k2 <;> rw [← k1, ← k2]
        · rw [Int.min_comm, Int.max_comm]
    · rw [edgesT_off h3]
      obtain ⟨f, hf, hk⟩ := h
      rcases List.mem_cons.1 hf with hf | hf
      · subst hf
        rcases hk with hk | hk <;> subst hk
        · exact sw_l _ _
        · exact sw_r _ _
      · exact absurd ⟨f, hf, hk⟩ h3
/-- Nodes, edges and faces together. -/
theorem faces_even {N : Nat} {l : List Ed} (hg : GoodG N l) {R : List (List Int)} (hl : R.length = N) (hok : (List.range N).any (fun i => !rowOk N l i (R.getD i [])) = false) : ((facesD N R N).2 + N + l.length) % 2 = 0 := by
  have hm := map_good hg hl hok
  have hperm : ∀ i, i < N → (rowI R i).Perm (nearI N l i) := fun i hi => by
    have := List.any_eq_false.1 hok i (List.mem_range.2 hi)
    exact (row_perm hg hi _).1 (by rw [Bool.not_eq_true, Bool.not_eq_false'] at this; exact this)
  have hr : ∀ a : Nat, a < N → (rowI R a).Nodup := fun a ha => (hperm a ha).nodup_iff.2 ((bitsI_up _).imp fun {a b} hab => by omega)
  have hadj : ∀ a : Nat, a < N → ∀ b, b ∈ rowI R a ↔ adjI l a b = true := fun a ha b => by rw [(hperm a ha).mem_iff, nearI_mem hg ha]
  have hn := dsAcc_nodup hr N (Nat.le_refl _)
  have hT : ∀ p ∈ rowsT R N ++ edgesT l, p.1 ∈ dsAcc R N ∧ p.2 ∈ dsAcc R N ∧ p.1 ≠ p.2 := fun p hp => by
    rcases List.mem_append.1 hp with hp | hp
    · obtain ⟨a, h1, h2, h3, h4, h5, h6⟩ := rowsT_mem hr (Nat.le_refl _) hp
      exact ⟨mem_dsAcc.2 ⟨by omega, by omega, by rw [h2]; exact h4⟩, mem_dsAcc.2 ⟨by omega, by omega, by rw [h3]; exact h5⟩, fun e => h6 (congrArg Prod.snd e)⟩
    · obtain ⟨e, he, rfl⟩ := List.mem_map.1 hp
      have hE := hg.ed e he
      have a0 := hE.a0
      have a1 := hE.a1
      have b0 := hE.b0
      have b1 := hE.b1
      have hne := hE.ne
      obtain ⟨x, hx⟩ := Int.eq_ofNat_of_zero_le a0
      obtain ⟨y, hy⟩ := Int.eq_ofNat_of_zero_le b0
      refine ⟨mem_dsAcc.2 ⟨a0, a1, ?_⟩, mem_dsAcc.2 ⟨b0, b1, ?_⟩, fun k => hne (congrArg Prod.fst k)⟩
      · show e.b ∈ rowI R e.a
        rw [hx, hadj x (by omega)]
        exact List.any_eq_true.2 ⟨e, he, by unfold joinsI; simp [hx]⟩
      · show e.a ∈ rowI R e.b
        rw [hy, hadj y (by omega)]
        exact List.any_eq_true.2 ⟨e, he, by unfold joinsI; simp [hy]⟩
  obtain ⟨h1, h2⟩ := act_ok hn _ hT
  have hact : ∀ d ∈ dsAcc R N, act (rowsT R N ++ edgesT l) d = nextD R d := fun d hd => by
    obtain ⟨d0, d1, d2⟩ := mem_dsAcc.1 hd
    obtain ⟨e0, e1, e2⟩ := hm.ok d.1 d.2 d0 d1 d2
    have hH : HasE l d := by
      obtain ⟨x, hx⟩ := Int.eq_ofNat_of_zero_le d0
      rw [hx, hadj x (by omega)] at d2
      obtain ⟨e, he, hj⟩ := List.any_eq_true.1 d2
      have := of_decide_eq_true hj
      rcases this with ⟨k1, k2⟩ | ⟨k1, k2⟩
      · exact ⟨e, he, .inl (Prod.ext (by rw [hx]; exact k1.symm) k2.symm)⟩
      · exact ⟨e, he, .inr (Prod.ext (by rw [hx]; exact k2.symm) k1.symm)⟩
    rw [act_append, edgesT_act hg.nd hH]
    obtain ⟨k, hk, hi, hat, _⟩ := idxF_mem e2
    obtain ⟨y, hy⟩ := Int.eq_ofNat_of_zero_le e0
    unfold nextD
    rw [hi]
    rw [← getD_at _ k hk 0] at hat
    rw [hy] at hk hat hi ⊢
    have := rowsT_act hr (a := y) hk (Nat.le_refl N) (by omega)
    rw [← hat]
    exact this
  have h3 := h1.congr hact
  rw [cyc_congr hact, cyc_firsts hn h3, List.length_append, show (edgesT l).length = l.length from List.length_map _] at h2
  have h4 := (faces_rch hm N (Nat.le_refl _)).2
  have h5 := rowsT_len R N
  omega
end Go.Proofs.YtlflnfelhndohaaDoor
