/- Flows in plain Lean: what goes out of a node, what a set of nodes lets go, a way with room pushed on. Conditions: none. -/
import Derived.Test.YtdinknpagklkjaaLotsBests9
import Derived.Test.YtdinknpagklkjaaLotsBests1
import Derived.Test.YtdinknpagklkjaaLotsBests7
import Derived.Test.YtdinknpagklkjaaLotsBests3
import Derived.Test.YtdinknpagklkjaaLotsBests2
namespace Go.Proofs.Ytdinknpagklkjaa
open Go.RowKit

abbrev z4 : Arc := ⟨0, 0, 0, 0⟩
/-- What leaves a node less what comes. -/
def netO : List Arc → List Int → Int → Int
  | a :: l, g :: gs, j => (if a.f = j then g else 0) - (if a.t = j then g else 0) + netO l gs j
  | _, _, _ => 0
def crossO (p : Int → Bool) : List Arc → List Int → Int
  | a :: l, g :: gs => (if p a.f then g else 0) - (if p a.t then g else 0) + crossO p l gs
  | _, _ => 0
def sumN (p : Int → Bool) (h : Int → Int) : Nat → Int
  | 0 => 0
  | n + 1 => sumN p h n + if p n then h n else 0
/-- What a set lets go. -/
def capP (p : Int → Bool) : List Arc → Int
  | [] => 0
  | a :: l => (if p a.f && !p a.t then a.m else 0) + capP p l
def CapOk : List Arc → List Int → Prop
  | [], [] => True
  | a :: l, g :: gs => (0 ≤ g ∧ g ≤ a.m) ∧ CapOk l gs
  | _, _ => False
def InN (N : Nat) (l : List Arc) : Prop := ∀ a ∈ l, 0 ≤ a.f ∧ a.f < N ∧ 0 ≤ a.t ∧ a.t < N ∧ a.f ≠ a.t
theorem CapOk.len : ∀ {l : List Arc} {gs : List Int}, CapOk l gs → gs.length = l.length
  | [], [], _ => rfl
  | a :: l, g :: gs, h => by rw [List.length_cons, List.length_cons, h.2.len]
  | [], g :: gs, h => h.elim
  | a :: l, [], h => h.elim
theorem CapOk.at_ : ∀ {l : List Arc} {gs : List Int}, CapOk l gs → ∀ {i : Nat}, i < l.length → 0 ≤ gs.getD i 0 ∧ gs.getD i 0 ≤ (l.getD i z4).m
  | a :: l, g :: gs, h, 0, _ => h.1
  | a :: l, g :: gs, h, i + 1, hi => by
    have := h.2.at_ (i := i) (by simpa using hi)
    simpa using this
  | [], _, _, _, hi => by simp at hi
  | a :: l, [], h, _, _ => h.elim
theorem CapOk.set_ : ∀ {l : List Arc} {gs : List Int}, CapOk l gs → ∀ {i : Nat} {x : Int}, 0 ≤ x → x ≤ (l.getD i z4).m → CapOk l (gs.set i x)
  | a :: l, g :: gs, h, 0, x, h0, h1 => ⟨⟨h0, h1⟩, h.2⟩
  | a :: l, g :: gs, h, i + 1, x, h0, h1 => ⟨h.1, h.2.set_ h0 (by simpa using h1)⟩
  | [], [], _, _, _, _, _ => trivial
  | [], g :: gs, h, _, _, _, _ => h.elim
  | a :: l, [], h, _, _, _, _ => h.elim
theorem CapOk.zero : ∀ {l : List Arc}, (∀ a ∈ l, 0 ≤ a.m) → CapOk l (List.replicate l.length 0)
  | [], _ => trivial
  | a :: l, h => ⟨⟨Int.le_refl _, h a List.mem_cons_self⟩, CapOk.zero fun b hb => h b (List.mem_cons_of_mem _ hb)⟩
theorem sumN_add (p : Int → Bool) (h k : Int → Int) : ∀ n, sumN p (fun j => h j + k j) n = sumN p h n + sumN p k n
  | 0 => rfl
  | n + 1 => by
    unfold sumN
    rw [sumN_add p h k n]
    split <;> omega
theorem sumN_zero (p : Int → Bool) {h : Int → Int} : ∀ n : Nat, (∀ j : Nat, j < n → p j = true → h j = 0) → sumN p h n = 0
  | 0, _ => rfl
  | n + 1, hz => by
    unfold sumN
    rw [sumN_zero p n fun j hj => hz j (by omega)]
    split
    · rename_i hp
      rw [hz n (by omega) hp]
      rfl
    · rfl
theorem sumN_one (p : Int → Bool) {h : Int → Int} {s : Nat} (hp : p s = true) : ∀ n : Nat, s < n → (∀ j : Nat, j < n → j ≠ s → p j = true → h j = 0) → sumN p h n = h s
  | 0, hs, _ => by omega
  | n + 1, hs, hz => by
    unfold sumN
    by_cases hn : n = s
    · subst hn
      rw [sumN_zero p n fun j hj hpj => hz j (by omega) (by omega) hpj, if_pos hp]
      omega
    · rw [sumN_one p hp n (by omega) fun j hj => hz j (by omega)]
      split
      · rename_i hpn
        rw [hz n (by omega) hn hpn]
        omega
      · omega
theorem sumN_ite (p : Int → Bool) (c : Int) (g : Int) {N : Nat} (h0 : 0 ≤ c) (h1 : c < N) : sumN p (fun j => if c = j then g else 0) N = if p c then g else 0 := by
  obtain ⟨k, rfl⟩ : ∃ k : Nat, c = k := ⟨c.toNat, by omega⟩
  cases hp : p k with
  | true =>
    rw [sumN_one p hp N (by omega) fun j _ hj _ => if_neg (by omega)]
    simp
  | false =>
    rw [sumN_zero p N fun j _ hpj => if_neg (fun e => by
      have : k = j := by omega
      rw [this, hpj] at hp
      cases hp)]
    simp
theorem sumN_neg (p : Int → Bool) (h : Int → Int) : ∀ n, sumN p (fun j => -h j) n = -sumN p h n
  | 0 => rfl
  | n + 1 => by
    unfold sumN
    rw [sumN_neg p h n]
    split <;> omega
theorem sum_net (p : Int → Bool) {N : Nat} : ∀ (l : List Arc) (gs : List Int), InN N l → sumN p (netO l gs) N = crossO p l gs
  | [], gs, _ => by
    have : netO [] gs = fun _ => 0 := by funext j; cases gs <;> rfl
    rw [this, sumN_zero p N fun _ _ _ => rfl]
    cases gs <;> rfl
  | a :: l, [], _ => by
    have : netO (a :: l) [] = fun _ => 0 := by funext j; rfl
    rw [this, sumN_zero p N fun _ _ _ => rfl]
    rfl
  | a :: l, g :: gs, h => by
    obtain ⟨h1, h2, h3, h4, _⟩ := h a List.mem_cons_self
    have : netO (a :: l) (g :: gs) = fun j => ((fun j => if a.f = j then g else 0) j + (fun j => -(fun j => if a.t = j then g else 0) j) j) + netO l gs j := by
      funext j
      simp only [netO]
      omega
    rw [this, sumN_add, sumN_add, sumN_neg, sumN_ite p _ _ h1 h2, sumN_ite p _ _ h3 h4, sum_net p l gs fun b hb => h b (List.mem_cons_of_mem _ hb)]
    simp only [crossO]
    omega
theorem cross_le (p : Int → Bool) : ∀ {l : List Arc} {gs : List Int}, CapOk l gs → crossO p l gs ≤ capP p l
  | [], [], _ => Int.le_refl _
  | a :: l, g :: gs, h => by
    have h1 := cross_le p h.2
    obtain ⟨h2, h3⟩ := h.1
    unfold crossO capP
    cases p a.f <;> cases p a.t <;> simp <;> omega
  | [], g :: gs, h => h.elim
  | a :: l, [], h => h.elim
theorem cross_full (p : Int → Bool) : ∀ {l : List Arc} {gs : List Int}, CapOk l gs → (∀ i, i < l.length → (p (l.getD i z4).f = true → p (l.getD i z4).t = false → gs.getD i 0 = (l.getD i z4).m) ∧ (p (l.getD i z4).f = false → p (l.getD i z4).t = true → gs.getD i 0 = 0)) → crossO p l gs = capP p l
  | [], [], _, _ => rfl
  | a :: l, g :: gs, h, hf => by
    have h1 := cross_full p h.2 fun i hi => by have := hf (i + 1) (by simpa using hi); simpa using this
    have h0 := hf 0 (by simp)
    simp at h0
    unfold crossO capP
    rw [h1]
    cases hpf : p a.f <;> cases hpt : p a.t <;> simp [hpf, hpt] at h0 ⊢ <;> omega
  | [], g :: gs, h, _ => h.elim
  | a :: l, [], h, _ => h.elim
/-- A flow of a value. -/
structure FlowV (N : Nat) (l : List Arc) (gs : List Int) (s t : Nat) (v : Int) : Prop where
  cap : CapOk l gs
  mid : ∀ j : Nat, j < N → j ≠ s → j ≠ t → netO l gs j = 0
  src : netO l gs s = v
theorem FlowV.cross {N : Nat} {l : List Arc} {gs : List Int} {s t : Nat} {v : Int} (h : FlowV N l gs s t v) (hin : InN N l) (hs : s < N) {p : Int → Bool} (ps : p s = true) (pt : p t = false) : crossO p l gs = v := by
  rw [← sum_net p l gs hin, sumN_one p ps N hs fun j hj hne hp => h.mid j hj hne (fun e => by rw [e, pt] at hp; cases hp)]
  exact h.src
theorem FlowV.weak {N : Nat} {l : List Arc} {gs : List Int} {s t : Nat} {v : Int} (h : FlowV N l gs s t v) (hin : InN N l) (hs : s < N) {p : Int → Bool} (ps : p s = true) (pt : p t = false) : v ≤ capP p l := by
  rw [← h.cross hin hs ps pt]
  exact cross_le p h.cap

/-- Steps: along an arc, or back. -/
abbrev Stp := Nat × Bool
def stF (l : List Arc) (x : Stp) : Int := fromS (l.getD x.1 z4) x.2
def stT (l : List Arc) (x : Stp) : Int := toS (l.getD x.1 z4) x.2
def stR (l : List Arc) (gs : List Int) (x : Stp) : Int := roomS (l.getD x.1 z4) (gs.getD x.1 0) x.2
/-- No step with room leads out of a set: it lets go what goes. -/
theorem closed_full {l : List Arc} {gs : List Int} (p : Int → Bool) (hc : CapOk l gs) (h : ∀ x : Stp, x.1 < l.length → 0 < stR l gs x → p (stF l x) = true → p (stT l x) = true) : crossO p l gs = capP p l := by
  refine cross_full p hc fun i hi => ?_
  have hb := hc.at_ hi
  refine ⟨fun h1 h2 => ?_, fun h1 h2 => ?_⟩
  · refine Classical.byContradiction fun hne => ?_
    have := h (i, false) hi (by show 0 < (l.getD i z4).m - gs.getD i 0; omega) h1
    have h3 : p (l.getD i z4).t = true := this
    rw [h2] at h3
    cases h3
  · refine Classical.byContradiction fun hne => ?_
    have := h (i, true) hi (by show 0 < gs.getD i 0; omega) h2
    have h3 : p (l.getD i z4).f = true := this
    rw [h1] at h3
    cases h3
theorem netO_set : ∀ (l : List Arc) (gs : List Int) (i : Nat) (x j : Int), gs.length = l.length → i < l.length →
    netO l (gs.set i x) j = netO l gs j + (if (l.getD i z4).f = j then x - gs.getD i 0 else 0) - (if (l.getD i z4).t = j then x - gs.getD i 0 else 0)
  | a :: l, g :: gs, 0, x, j, _, _ => by
    simp only [List.set_cons_zero, netO, List.getD_cons_zero]
    split <;> split <;> omega
  | a :: l, g :: gs, i + 1, x, j, hl, hi => by
    have := netO_set l gs i x j (by simpa using hl) (by simpa using hi)
    simp only [List.set_cons_succ, netO, List.getD_cons_succ]
    rw [this]
    omega
  | [], _, i, x, j, _, hi => by simp at hi
  | a :: l, [], i, x, j, hl, _ => by simp at hl
def push1 (u : Int) (gs : List Int) (x : Stp) : List Int := gs.set x.1 (if x.2 then gs.getD x.1 0 - u else gs.getD x.1 0 + u)
theorem push1_length (u : Int) (gs : List Int) (x : Stp) : (push1 u gs x).length = gs.length := by simp [push1]
theorem netO_push1 {l : List Arc} {gs : List Int} {x : Stp} (u j : Int) (hl : gs.length = l.length) (hx : x.1 < l.length) : netO l (push1 u gs x) j = netO l gs j + (if stF l x = j then u else 0) - (if stT l x = j then u else 0) := by
  obtain ⟨i, b⟩ := x
  unfold push1
  rw [netO_set l gs i _ j hl hx]
  cases b with
  | false =>
    show _ + (if (l.getD i z4).f = j then _ else 0) - (if (l.getD i z4).t = j then _ else 0) = _ + (if (l.getD i z4).f = j then u else 0) - (if (l.getD i z4).t = j then u else 0)
    simp only [Bool.false_eq_true, if_false]
    split <;> split <;> omega
  | true =>
    show _ + (if (l.getD i z4).f = j then _ else 0) - (if (l.getD i z4).t = j then _ else 0) = _ + (if (l.getD i z4).t = j then u else 0) - (if (l.getD i z4).f = j then u else 0)
    simp only [if_true]
    split <;> split <;> omega
def pushL (u : Int) (gs : List Int) (ws : List Stp) : List Int := ws.foldl (push1 u) gs
theorem pushL_length (u : Int) : ∀ (ws : List Stp) (gs : List Int), (pushL u gs ws).length = gs.length
  | [], _ => rfl
  | x :: ws, gs => by
    show (pushL u (push1 u gs x) ws).length = _
    rw [pushL_length u ws, push1_length]
/-- Steps one behind the other, from a node to a node. -/
def ChS (l : List Arc) : Int → List Stp → Int → Prop
  | a, [], b => a = b
  | a, x :: ws, b => stF l x = a ∧ ChS l (stT l x) ws b
theorem netO_push {l : List Arc} (u j : Int) : ∀ (ws : List Stp) (gs : List Int) (a b : Int), gs.length = l.length → (∀ x ∈ ws, x.1 < l.length) → ChS l a ws b → netO l (pushL u gs ws) j = netO l gs j + (if a = j then u else 0) - (if b = j then u else 0)
  | [], gs, a, b, _, _, h => by
    have : a = b := h
    rw [this]
    show netO l gs j = _
    omega
  | x :: ws, gs, a, b, hl, hx, h => by
    show netO l (pushL u (push1 u gs x) ws) j = _
    rw [netO_push u j ws _ (stT l x) b (by rw [push1_length]; exact hl) (fun y hy => hx y (List.mem_cons_of_mem _ hy)) h.2, netO_push1 u j hl (hx x List.mem_cons_self), h.1]
    omega
theorem cap_push {l : List Arc} {u : Int} (hu : 0 ≤ u) : ∀ (ws : List Stp) (gs : List Int), CapOk l gs → (ws.map Prod.fst).Nodup → (∀ x ∈ ws, x.1 < l.length ∧ u ≤ stR l gs x) → CapOk l (pushL u gs ws)
  | [], _, h, _, _ => h
  | x :: ws, gs, h, hn, hr => by
    have hn' := List.nodup_cons.1 hn
    obtain ⟨hx, hrx⟩ := hr x List.mem_cons_self
    have hb := h.at_ hx
    have h1 : CapOk l (push1 u gs x) := by
      unfold push1
      obtain ⟨i, b⟩ := x
      cases b with
      | false =>
        have : u ≤ (l.getD i z4).m - gs.getD i 0 := hrx
        refine h.set_ ?_ ?_ <;> simp only [Bool.false_eq_true, if_false] at * <;> omega
      | true =>
        have : u ≤ gs.getD i 0 := hrx
        refine h.set_ ?_ ?_ <;> simp only [if_true] at * <;> omega
    refine cap_push hu ws _ h1 hn'.2 fun y hy => ?_
    obtain ⟨hy1, hy2⟩ := hr y (List.mem_cons_of_mem _ hy)
    refine ⟨hy1, ?_⟩
    have hne : x.1 ≠ y.1 := fun e => hn'.1 (by show x.1 ∈ ws.map Prod.fst; rw [e]; exact List.mem_map.2 ⟨y, hy, rfl⟩)
    unfold stR push1 at *
    have e : ∀ v : Int, (gs.set x.1 v).getD y.1 0 = gs.getD y.1 0 := fun v => by
      rw [List.getD_eq_getElem?_getD, List.getD_eq_getElem?_getD, List.getElem?_set_ne hne]
    rw [e]
    exact hy2
/-- On a way whose nodes come in an order no arc is met twice. -/
theorem arcs_nodup {l : List Arc} (rk : Int → Nat) : ∀ (ws : List Stp) (a b : Int), ChS l a ws b → (∀ x ∈ ws, rk (stF l x) < rk (stT l x)) → (ws.map Prod.fst).Nodup ∧ ∀ x ∈ ws, rk a ≤ rk (stF l x)
  | [], _, _, _, _ => ⟨List.nodup_nil, fun x hx => by cases hx⟩
  | x :: ws, a, b, h, hr => by
    obtain ⟨h1, h2⟩ := arcs_nodup rk ws (stT l x) b h.2 fun y hy => hr y (List.mem_cons_of_mem _ hy)
    have hx := hr x List.mem_cons_self
    refine ⟨List.nodup_cons.2 ⟨fun hm => ?_, h1⟩, fun y hy => ?_⟩
    · obtain ⟨y, hy, he⟩ := List.mem_map.1 hm
      have h3 := h2 y hy
      have h4 := hr y (List.mem_cons_of_mem _ hy)
      have he' : y.1 = x.1 := he
      obtain ⟨i, bx⟩ := x
      obtain ⟨i', b'⟩ := y
      have hii : i' = i := he'
      subst hii
      unfold stF stT fromS toS at *
      cases bx <;> cases b' <;> simp at hx h3 h4 <;> omega
    · rcases List.mem_cons.1 hy with rfl | hy
      · rw [h.1]
        exact Nat.le_refl _
      · have := h2 y hy
        have h0 := h.1
        rw [h0] at hx
        omega
theorem FlowV.push {N : Nat} {l : List Arc} {gs : List Int} {s t : Nat} {v u : Int} {ws : List Stp} (h : FlowV N l gs s t v) (hst : s ≠ t) (hu : 0 ≤ u) (hch : ChS l s ws t) (rk : Int → Nat) (hr : ∀ x ∈ ws, x.1 < l.length ∧ u ≤ stR l gs x ∧ rk (stF l x) < rk (stT l x)) : FlowV N l (pushL u gs ws) s t (v + u) := by
  have hn := (arcs_nodup rk ws s t hch fun x hx => (hr x hx).2.2).1
  have hp := fun j => netO_push u j ws gs s t h.cap.len (fun x hx => (hr x hx).1) hch
  refine ⟨cap_push hu ws gs h.cap hn fun x hx => ⟨(hr x hx).1, (hr x hx).2.1⟩, fun j hj h1 h2 => ?_, ?_⟩
  · rw [hp, h.mid j hj h1 h2, if_neg (by omega), if_neg (by omega)]
    rfl
  · rw [hp, h.src, if_pos rfl, if_neg (by omega)]
    omega
end Go.Proofs.Ytdinknpagklkjaa

/- The search for a way with room, in plain Lean: what has been found, and by which step; the way back. Conditions: none. -/
namespace Go.Proofs.Ytdinknpagklkjaa
open Go.RowKit

abbrev stepV (x : Stp) : Value := .agg #[.int .i64 x.1, .bool x.2]
def stepsL (m : Nat) : List Stp := (List.range m).flatMap fun i => [(i, false), (i, true)]
theorem mem_stepsL {m : Nat} {x : Stp} : x ∈ stepsL m ↔ x.1 < m := by
  unfold stepsL
  rw [List.mem_flatMap]
  constructor
  · rintro ⟨i, hi, hx⟩
    have := List.mem_range.1 hi
    simp only [List.mem_cons, List.not_mem_nil, or_false] at hx
    rcases hx with rfl | rfl <;> exact this
  · intro h
    refine ⟨x.1, List.mem_range.2 h, ?_⟩
    obtain ⟨i, b⟩ := x
    cases b <;> simp
/-- The nodes that have been found, in their order. -/
def keysO (s : Int) (K : List (Int × Stp)) : List Int := s :: K.map Prod.fst
theorem keysO_snoc (s : Int) (K : List (Int × Stp)) (b : Int) (x : Stp) : keysO s (K ++ [(b, x)]) = keysO s K ++ [b] := by simp [keysO]
theorem keysO_length (s : Int) (K : List (Int × Stp)) : (keysO s K).length = K.length + 1 := by simp [keysO]
theorem keysO_take (s : Int) (K : List (Int × Stp)) (i : Nat) : keysO s (K.take i) = (keysO s K).take (i + 1) := by simp [keysO, List.map_take]
structure BfsI (l : List Arc) (gs : List Int) (s : Int) (K : List (Int × Stp)) : Prop where
  nd : (keysO s K).Nodup
  ent : ∀ (i : Nat) (b : Int) (x : Stp), K[i]? = some (b, x) → x.1 < l.length ∧ 0 < stR l gs x ∧ stT l x = b ∧ stF l x ∈ keysO s (K.take i)
theorem BfsI.nil (l : List Arc) (gs : List Int) (s : Int) : BfsI l gs s [] := ⟨by simp [keysO], fun i b x h => by simp at h⟩
theorem BfsI.snoc {l : List Arc} {gs : List Int} {s : Int} {K : List (Int × Stp)} (h : BfsI l gs s K) {x : Stp} (hx : x.1 < l.length) (hr : 0 < stR l gs x) (hf : stF l x ∈ keysO s K) (ht : stT l x ∉ keysO s K) : BfsI l gs s (K ++ [(stT l x, x)]) := by
  refine ⟨?_, fun i b y hi => ?_⟩
  · rw [keysO_snoc]
    refine List.nodup_append.2 ⟨h.nd, by simp, fun a ha b hb => ?_⟩
    rw [List.mem_singleton] at hb
    intro e
    exact ht (by rw [← hb, ← e]; exact ha)
  · rcases Nat.lt_trichotomy i K.length with hl | hl | hl
    · rw [List.getElem?_append_left hl] at hi
      rw [List.take_append_of_le_length (by omega)]
      exact h.ent i b y hi
    · subst hl
      rw [List.getElem?_append_right (Nat.le_refl _), Nat.sub_self] at hi
      simp at hi
      obtain ⟨rfl, rfl⟩ := hi
      rw [List.take_append_of_le_length (Nat.le_refl _), List.take_length]
      exact ⟨hx, hr, rfl, hf⟩
    · rw [List.getElem?_eq_none (by simp; omega)] at hi
      cases hi
/-- The first p nodes have been looked at: all that can be come to from them has been found. -/
def Scd (l : List Arc) (gs : List Int) (s : Int) (K : List (Int × Stp)) (p : Nat) : Prop := ∀ q, q < p → ∀ a, (keysO s K)[q]? = some a → ∀ x : Stp, x.1 < l.length → 0 < stR l gs x → stF l x = a → stT l x ∈ keysO s K
/-- Of the steps that have been looked at from a node. -/
def Sct (l : List Arc) (gs : List Int) (s : Int) (K : List (Int × Stp)) (a : Int) (pre : List Stp) : Prop := ∀ x ∈ pre, 0 < stR l gs x → stF l x = a → stT l x ∈ keysO s K
theorem Scd.snoc {l : List Arc} {gs : List Int} {s : Int} {K : List (Int × Stp)} {p : Nat} (h : Scd l gs s K p) (hp : p ≤ (keysO s K).length) (b : Int) (x : Stp) : Scd l gs s (K ++ [(b, x)]) p := fun q hq a ha y hy hr hf => by
  rw [keysO_snoc, List.getElem?_append_left (by omega)] at ha
  rw [keysO_snoc]
  exact List.mem_append_left _ (h q hq a ha y hy hr hf)
theorem Sct.snoc {l : List Arc} {gs : List Int} {s : Int} {K : List (Int × Stp)} {a : Int} {pre : List Stp} (h : Sct l gs s K a pre) (b : Int) (x : Stp) : Sct l gs s (K ++ [(b, x)]) a pre := fun y hy hr hf => by
  rw [keysO_snoc]
  exact List.mem_append_left _ (h y hy hr hf)
theorem Sct.next {l : List Arc} {gs : List Int} {s : Int} {K : List (Int × Stp)} {a : Int} {pre : List Stp} (h : Sct l gs s K a pre) {x : Stp} (hx : 0 < stR l gs x → stF l x = a → stT l x ∈ keysO s K) : Sct l gs s K a (pre ++ [x]) := fun y hy hr hf => by
  rcases List.mem_append.1 hy with hy | hy
  · exact h y hy hr hf
  · rw [List.mem_singleton] at hy
    subst hy
    exact hx hr hf
theorem Scd.next {l : List Arc} {gs : List Int} {s : Int} {K : List (Int × Stp)} {p : Nat} {a : Int} (h : Scd l gs s K p) (ha : (keysO s K)[p]? = some a) (hs : Sct l gs s K a (stepsL l.length)) : Scd l gs s K (p + 1) := fun q hq b hb y hy hr hf => by
  by_cases hqp : q = p
  · subst hqp
    rw [ha] at hb
    injection hb with hb
    subst hb
    exact hs y (mem_stepsL.2 hy) hr hf
  · exact h q (by omega) b hb y hy hr hf
theorem BfsI.low {N : Nat} {l : List Arc} {gs : List Int} {s : Nat} {K : List (Int × Stp)} (h : BfsI l gs s K) (hin : InN N l) (hs : s < N) : ∀ b ∈ keysO s K, 0 ≤ b ∧ b < N := fun b hb => by
  rcases List.mem_cons.1 hb with rfl | hb
  · omega
  · obtain ⟨⟨b', x⟩, hm, rfl⟩ := List.mem_map.1 hb
    obtain ⟨i, hi⟩ := List.getElem?_of_mem hm
    obtain ⟨h1, _, h3, _⟩ := h.ent i b' x hi
    have h4 := hin (l.getD x.1 z4) (by rw [List.getD_eq_getElem?_getD, List.getElem?_eq_getElem h1]; exact List.getElem_mem h1)
    show 0 ≤ b' ∧ b' < N
    rw [← h3]
    obtain ⟨i', bx⟩ := x
    unfold stT toS
    cases bx with
    | false => exact ⟨h4.2.2.1, h4.2.2.2.1⟩
    | true => exact ⟨h4.1, h4.2.1⟩
/-- When all have been looked at and the end has not been found, what has been found is a set that is full. -/
theorem no_way {N : Nat} {l : List Arc} {gs : List Int} {s t : Nat} {v : Int} {K : List (Int × Stp)} (hf : FlowV N l gs s t v) (hin : InN N l) (hs : s < N) (hall : Scd l gs s K (keysO s K).length) (ht : (t : Int) ∉ keysO s K) : ∃ p : Int → Bool, p s = true ∧ p t = false ∧ capP p l = v := by
  refine ⟨fun b => decide (b ∈ keysO s K), decide_eq_true (by simp [keysO]), decide_eq_false ht, ?_⟩
  rw [← hf.cross hin hs (p := fun b => decide (b ∈ keysO s K)) (decide_eq_true (by simp [keysO])) (decide_eq_false ht)]
  refine (closed_full _ hf.cap fun x hx hr hp => ?_).symm
  have hm := of_decide_eq_true hp
  obtain ⟨q, hq⟩ := List.getElem?_of_mem hm
  have hlt : q < (keysO s K).length := (List.getElem?_eq_some_iff.1 hq).1
  exact decide_eq_true (hall q hlt _ hq x hx hr rfl)
/-- A node's place in the order. -/
def rkO (s : Int) (K : List (Int × Stp)) (b : Int) : Nat := (keysO s K).idxOf b
theorem rk_ent {l : List Arc} {gs : List Int} {s : Int} {K : List (Int × Stp)} (h : BfsI l gs s K) {b : Int} {x : Stp} (hm : (b, x) ∈ K) : x.1 < l.length ∧ 0 < stR l gs x ∧ stT l x = b ∧ stF l x ∈ keysO s K ∧ rkO s K (stF l x) < rkO s K (stT l x) := by
  obtain ⟨i, hi⟩ := List.getElem?_of_mem hm
  obtain ⟨h1, h2, h3, h4⟩ := h.ent i b x hi
  have hil : i < K.length := (List.getElem?_eq_some_iff.1 hi).1
  rw [keysO_take] at h4
  have h5 : stF l x ∈ keysO s K := List.mem_of_mem_take h4
  refine ⟨h1, h2, h3, h5, ?_⟩
  have hb : (keysO s K)[i + 1]? = some b := by
    show (s :: K.map Prod.fst)[i + 1]? = _
    rw [List.getElem?_cons_succ, List.getElem?_map, hi]
    rfl
  have hbl : i + 1 < (keysO s K).length := (List.getElem?_eq_some_iff.1 hb).1
  have hbe : (keysO s K)[i + 1] = b := (List.getElem?_eq_some_iff.1 hb).2
  have e1 : rkO s K (stT l x) = i + 1 := by
    unfold rkO
    rw [h3, ← hbe]
    exact List.Nodup.idxOf_getElem h.nd (i + 1) hbl
  have e2 : rkO s K (stF l x) < i + 1 := by
    unfold rkO
    have h6 := List.idxOf_lt_length_of_mem h4
    have h7 : (keysO s K).idxOf (stF l x) = ((keysO s K).take (i + 1)).idxOf (stF l x) := by
      conv => lhs; rw [← List.take_append_drop (i + 1) (keysO s K)]
      rw [List.idxOf_append, if_pos h4]
    rw [h7]
    rw [List.length_take] at h6
    omega
  omega
theorem rk_start (s : Int) (K : List (Int × Stp)) {b : Int} (hb : rkO s K b = 0) (hm : b ∈ keysO s K) : b = s := by
  unfold rkO keysO at hb
  rw [List.idxOf_cons] at hb
  cases h : s == b with
  | true => exact (beq_iff_eq.1 h).symm
  | false => rw [h] at hb; simp at hb
/-- The map that the program keeps. -/
def mapL (K : List (Int × Stp)) : List (Int × Value) := K.map fun p => (p.1, stepV p.2)
theorem getK_mapL_none {K : List (Int × Stp)} {b : Int} (h : b ∉ K.map Prod.fst) : getK (mapL K) b = none := by
  induction K with
  | nil => rfl
  | cons p K ih =>
    rw [List.map_cons, List.mem_cons, not_or] at h
    show getK ((p.1, stepV p.2) :: mapL K) b = none
    unfold getK
    rw [if_neg h.1]
    exact ih h.2
theorem getK_mapL {K : List (Int × Stp)} {b : Int} (h : b ∈ K.map Prod.fst) : ∃ x, (b, x) ∈ K ∧ getK (mapL K) b = some (stepV x) := by
  induction K with
  | nil => cases h
  | cons p K ih =>
    show ∃ x, _ ∧ getK ((p.1, stepV p.2) :: mapL K) b = _
    unfold getK
    by_cases hp : b = p.1
    · refine ⟨p.2, by rw [hp]; exact List.mem_cons_self, by rw [if_pos hp]⟩
    · rw [List.map_cons, List.mem_cons] at h
      obtain ⟨x, hx, he⟩ := ih (h.resolve_left hp)
      exact ⟨x, List.mem_cons_of_mem _ hx, by rw [if_neg hp]; exact he⟩
theorem putK_mapL {K : List (Int × Stp)} {b : Int} (x : Stp) (h : b ∉ K.map Prod.fst) : putK (mapL K) b (stepV x) = mapL (K ++ [(b, x)]) := by
  rw [putK_none]
  · simp [mapL]
  · intro p hp e
    unfold mapL at hp
    obtain ⟨q, hq, rfl⟩ := List.mem_map.1 hp
    exact h (List.mem_map.2 ⟨q, hq, e⟩)
/-- The way back so far: from a node on to the end, by steps of what has been found. -/
def BackW (l : List Arc) (K : List (Int × Stp)) (at_ t : Int) (ws : List Stp) : Prop := ChS l at_ ws t ∧ ∀ x ∈ ws, ∃ b, (b, x) ∈ K
theorem BackW.step {l : List Arc} {K : List (Int × Stp)} {at_ t : Int} {ws : List Stp} (h : BackW l K at_ t ws) {x : Stp} (hm : (at_, x) ∈ K) (ht : stT l x = at_) : BackW l K (stF l x) t (x :: ws) :=
  ⟨⟨rfl, by rw [ht]; exact h.1⟩, fun y hy => by
    rcases List.mem_cons.1 hy with rfl | hy
    · exact ⟨_, hm⟩
    · exact h.2 y hy⟩
/-- The least room on a way, and no more than so much. -/
def leastR (l : List Arc) (gs : List Int) : List Stp → Int
  | [] => 1048576
  | x :: ws => if stR l gs x < leastR l gs ws then stR l gs x else leastR l gs ws
theorem leastR_le {l : List Arc} {gs : List Int} : ∀ {ws : List Stp}, ∀ x ∈ ws, leastR l gs ws ≤ stR l gs x
  | y :: ws, x, hx => by
    unfold leastR
    rcases List.mem_cons.1 hx with rfl | hx
    · split <;> omega
    · have := leastR_le (l := l) (gs := gs) x hx
      split <;> omega
theorem leastR_pos {l : List Arc} {gs : List Int} : ∀ {ws : List Stp}, (∀ x ∈ ws, 0 < stR l gs x) → 0 < leastR l gs ws ∧ leastR l gs ws ≤ 1048576
  | [], _ => by simp [leastR]
  | y :: ws, h => by
    have h1 := leastR_pos fun x hx => h x (List.mem_cons_of_mem _ hx)
    have h2 := h y List.mem_cons_self
    unfold leastR
    split <;> omega
/-- A whole way back is pushed on: more goes. -/
theorem back_push {N : Nat} {l : List Arc} {gs : List Int} {s t : Nat} {v : Int} {K : List (Int × Stp)} (hf : FlowV N l gs s t v) (hst : s ≠ t) (hK : BfsI l gs s K) {ws : List Stp} (hw : BackW l K s t ws) : FlowV N l (pushL (leastR l gs ws) gs ws) s t (v + leastR l gs ws) ∧ 0 < leastR l gs ws ∧ ws ≠ [] := by
  have hp : ∀ x ∈ ws, x.1 < l.length ∧ 0 < stR l gs x ∧ rkO s K (stF l x) < rkO s K (stT l x) := fun x hx => by
    obtain ⟨b, hb⟩ := hw.2 x hx
    obtain ⟨h1, h2, _, _, h5⟩ := rk_ent hK hb
    exact ⟨h1, h2, h5⟩
  have hpos := leastR_pos fun x hx => (hp x hx).2.1
  refine ⟨hf.push hst (by omega) hw.1 (rkO s K) fun x hx => ⟨(hp x hx).1, leastR_le x hx, (hp x hx).2.2⟩, hpos.1, ?_⟩
  rintro rfl
  have : (s : Int) = t := hw.1
  omega
/-- The value is no more than all arcs let go. -/
def allM : List Arc → Int
  | [] => 0
  | a :: l => a.m + allM l
theorem capP_le (p : Int → Bool) : ∀ {l : List Arc}, (∀ a ∈ l, 0 ≤ a.m) → capP p l ≤ allM l
  | [], _ => Int.le_refl _
  | a :: l, h => by
    have h1 := capP_le p fun b hb => h b (List.mem_cons_of_mem _ hb)
    have h2 := h a List.mem_cons_self
    unfold capP allM
    split <;> omega
theorem allM_le : ∀ {l : List Arc}, (∀ a ∈ l, a.m ≤ 1048576) → allM l ≤ 1048576 * l.length
  | [], _ => by simp [allM]
  | a :: l, h => by
    have h1 := allM_le fun b hb => h b (List.mem_cons_of_mem _ hb)
    have h2 := h a List.mem_cons_self
    unfold allM
    rw [List.length_cons]
    omega
theorem FlowV.le_all {N : Nat} {l : List Arc} {gs : List Int} {s t : Nat} {v : Int} (h : FlowV N l gs s t v) (hin : InN N l) (hm : ∀ a ∈ l, 0 ≤ a.m) (hs : s < N) (hst : s ≠ t) : v ≤ allM l := by
  have h1 := h.weak hin hs (p := fun j => decide (j ≠ t)) (decide_eq_true (by omega)) (decide_eq_false (by simp))
  exact Int.le_trans h1 (capP_le _ hm)
end Go.Proofs.Ytdinknpagklkjaa

/- What workers and tasks are told to be wrong: the program and the reference compute the one function placeCheck. Conditions: the workers read as a list. -/
namespace Go.Proofs.Ytdinknpagklkjaa
open Go.RowKit

abbrev Wk := Int × BitVec 32
abbrev wkcell (a : Wk) : List Value := [.int .i64 a.1, .int .u32 (wN a.2)]
def badRoom (a : Wk) : Bool := decide (a.1 < 0) || decide (12 < a.1)
def placeCheck (ws : List Wk) (m : Nat) : Int := if 6 < ws.length ∨ 12 < m then 1 else if ws.any badRoom then 4 else 0

theorem ent_place1 : Ent Try.prog 85 := ent_of Try.func85 (by kernel_rfl) rfl
theorem place_Check1 (a : Wk) (w : World) :
    Calls Try.prog 85 #[.agg #[.int .i64 a.1, .int .u32 (wN a.2)]] w fun e w' => e = .returned (.bool (badRoom a)) ∧ Below w.heap.size w w' := by
  obtain ⟨r, h⟩ := a
  by_cases h0 : r < 0
  · have e : badRoom (r, h) = true := by simp [badRoom, h0]
    have HE := Lib.hid e
    clear e
    go_enter Try.func85, Try.ntmps85
    go_wp2_with fail
    go_ret
    exact ⟨ret_bool (by rw [HE.out]), (Below.refl _ _).alloc (Nat.le_refl _) _⟩
  · have e : badRoom (r, h) = decide (12 < r) := by simp [badRoom, h0]
    have HE := Lib.hid e
    clear e
    go_enter Try.func85, Try.ntmps85
    go_wp2_with fail
    go_ret
    exact ⟨ret_bool (by rw [HE.out]), (Below.refl _ _).alloc (Nat.le_refl _) _⟩

theorem place_Check (A B : Option Addr) (n c m d : Nat) (ws : List Wk) (w : World) (hl : ws.length = n) (hn : n ≤ maxLen) (hr : Els w w.heap.size 2 wkcell A ws) (hm : m ≤ maxLen) :
    Calls Try.prog 42 #[.slice A n c, .slice B m d] w fun e w' => e = .returned (.int .i64 (placeCheck ws m)) ∧ Below w.heap.size w w' := by
  have HC := Lib.hid (ContainsFunc_workers 85 ent_place1 #[] badRoom A n c ws w hl hn hr (fun a wx _ hb => by simpa using (place_Check1 a wx).mono fun e w' ⟨he, hw⟩ => ⟨he, hw.mono hb.size⟩))
  have HN : Hid (placeCheck ws m = if 6 < n ∨ 12 < m then 1 else if ws.any badRoom then 4 else 0) := by subst hl; rfl
  unfold maxLen at hn hm
  clear hl hr
  by_cases h1 : 6 < n
  · go_enter Try.func42, Try.ntmps42
    go_wp2_with fail
    go_ret
    exact ⟨ret_i64 (by rw [HN.out, if_pos (.inl h1)]), Below.refl _ _⟩
  · by_cases h2 : 12 < m
    · go_enter Try.func42, Try.ntmps42
      go_wp2_with fail
      go_ret
      exact ⟨ret_i64 (by rw [HN.out, if_pos (.inr h2)]), Below.refl _ _⟩
    · have HN2 := HN.out
      rw [if_neg (by omega)] at HN2
      have HM := Lib.hid HN2
      clear HN2 HN
      rcases ha : ws.any badRoom with _ | _
      all_goals
        have HA := Lib.hid ha
        clear ha
        go_enter Try.func42, Try.ntmps42
        go_wp2_with fail
        refine HC.out.mono ?_
        rintro e w' ⟨rfl, hb⟩
        rw [HA.out]
        go_wp2_with fail
        go_ret
        exact ⟨ret_i64 (by rw [HM.out, HA.out]; rfl), hb⟩

set_option maxRecDepth 100000 in
theorem ref_PlaceCheck (A B : Option Addr) (n c m d : Nat) (ws : List Wk) (w : World) (hl : ws.length = n) (hn : n ≤ maxLen) (hr : Els w w.heap.size 2 wkcell A ws) (hm : m ≤ maxLen) :
    Calls Try.prog 21 #[.slice A n c, .slice B m d] w fun e w' => e = .returned (.int .i64 (placeCheck ws m)) ∧ Below w.heap.size w w' := by
  have HN : Hid (placeCheck ws m = if 6 < n ∨ 12 < m then 1 else if ws.any badRoom then 4 else 0) := by subst hl; rfl
  have HL := Lib.hid hl
  unfold maxLen at hn hm
  clear hl
  by_cases h1 : 6 < n
  · go_enter Try.func21, Try.ntmps21
    go_wp2_with fail
    go_ret
    exact ⟨ret_i64 (by rw [HN.out, if_pos (.inl h1)]), Below.refl _ _⟩
  · by_cases h2 : 12 < m
    · go_enter Try.func21, Try.ntmps21
      go_wp2_with fail
      go_ret
      exact ⟨ret_i64 (by rw [HN.out, if_pos (.inr h2)]), Below.refl _ _⟩
    · have HN2 := HN.out
      rw [if_neg (by omega)] at HN2
      have HM := Lib.hid HN2
      clear HN2 HN
      go_enter Try.func21, Try.ntmps21
      go_wp2_with fail
      go_loopw [17] (fun i wr => ∃ k : Nat, k ≤ n ∧ i = .int .i64 k ∧ Below w.heap.size w wr ∧ (ws.take k).any badRoom = false) (fun i _ => n - (intOf i).toNat)
      case atStart => exact ⟨0, by omega, rfl, Below.refl _ _, rfl⟩
      case round =>
        obtain ⟨k, hk, rfl, hb, hno⟩ := hrel
        have HK := Lib.hid hno
        clear hno
        by_cases hlt : k < n
        · have hkl : k < ws.length := by rw [HL.out]; exact hlt
          obtain ⟨b, off, rfl, hbb, g0, g1⟩ := (hr.below hb).at2 hkl
          obtain ⟨x, hx⟩ : ∃ x, x = ws[k] := ⟨_, rfl⟩
          rw [← hx] at g0 g1
          have HX := Lib.hid hx
          clear hx
          have hsz := hb.size
          by_cases h0 : x.1 < 0
          · have HB : Hid (badRoom x = true) := by show badRoom x = true; simp [badRoom, h0]
            go_wp2_with fail
            go_ret
            exact ⟨ret_i64 (by rw [HM.out, if_pos (any_of_get hkl (by rw [← HX.out]; exact HB.out))]), hb.alloc hsz _⟩
          · by_cases h12 : 12 < x.1
            · have HB : Hid (badRoom x = true) := by show badRoom x = true; simp [badRoom, h12]
              go_wp2_with fail
              go_ret
              exact ⟨ret_i64 (by rw [HM.out, if_pos (any_of_get hkl (by rw [← HX.out]; exact HB.out))]), hb.alloc hsz _⟩
            · have HB : Hid (badRoom x = false) := by show badRoom x = false; simp [badRoom]; omega
              go_wp2_with fail
              go_roundw
              case rel => exact ⟨k + 1, by omega, by go_num, hb.alloc hsz _, by rw [any_take_succ _ _ _ hkl, HK.out, ← HX.out, HB.out]; rfl⟩
              case measure => simp [intOf]; omega
        · go_wp2_with fail
          go_ret
          exact ⟨ret_i64 (by rw [HM.out, any_take_all (by rw [HL.out]; omega) HK.out]; rfl), hb⟩

end Go.Proofs.Ytdinknpagklkjaa

/- Which tasks lack the most room, in plain Lean. Conditions: none. -/
namespace Go.Proofs.Ytdinknpagklkjaa
open Go.RowKit

/-- May a task be with a worker; is a worker wanted by any of the first k that are in s? -/
def mayW (t : BitVec 32) (a : Wk) : Bool := wBut t a.2 == w0
theorem mayW_and (t : BitVec 32) (a : Wk) : (wAnd t a.2 == t) = mayW t a := by
  unfold mayW
  rw [Bool.eq_iff_iff, beq_iff_eq, beq_iff_eq]
  constructor
  · intro h
    apply w_ext
    intro m _
    have := congrArg (fun v => v.getLsbD m) h
    simp only [b_and] at this
    rw [b_but, b_0]
    cases h1 : t.getLsbD m <;> cases h2 : a.2.getLsbD m <;> simp_all
  · intro h
    apply w_ext
    intro m _
    have := congrArg (fun v => v.getLsbD m) h
    simp only [b_but, b_0] at this
    rw [b_and]
    cases h1 : t.getLsbD m <;> cases h2 : a.2.getLsbD m <;> simp_all
def wantsTo (ts : List (BitVec 32)) (a : Wk) (s : BitVec 32) : Nat → Bool
  | 0 => false
  | k + 1 => wantsTo ts a s k || (bitB s k && mayW (lw ts k) a)
theorem wantsTo_iff (ts : List (BitVec 32)) (a : Wk) (s : BitVec 32) : ∀ k, wantsTo ts a s k = true ↔ ∃ j, j < k ∧ s.getLsbD j = true ∧ mayW (lw ts j) a = true
  | 0 => by simp [wantsTo]
  | k + 1 => by
    rw [wantsTo, Bool.or_eq_true, wantsTo_iff ts a s k, Bool.and_eq_true, bitB_nat]
    constructor
    · rintro (⟨j, h, h2⟩ | h)
      · exact ⟨j, by omega, h2⟩
      · exact ⟨k, by omega, h⟩
    · rintro ⟨j, h, h2⟩
      by_cases hj : j = k
      · subst hj; exact .inr h2
      · exact .inl ⟨j, by omega, h2⟩
/-- How much room a set lacks, by the first k workers; by all; the first set that lacks the most. -/
def lackTo (ts : List (BitVec 32)) (ws : List Wk) (s : BitVec 32) : Nat → Int
  | 0 => pop s
  | k + 1 => if wantsTo ts (ws.getD k (0, w0)) s ts.length = true then lackTo ts ws s k - (ws.getD k (0, w0)).1 else lackTo ts ws s k
def lackS (ts : List (BitVec 32)) (ws : List Wk) (s : BitVec 32) : Int := lackTo ts ws s ws.length
def shortTo (ts : List (BitVec 32)) (ws : List Wk) : Nat → BitVec 32
  | 0 => w0
  | k + 1 => if lackS ts ws (shortTo ts ws k) < lackS ts ws (nw k) then nw k else shortTo ts ws k
theorem lackTo_0 (ts : List (BitVec 32)) (ws : List Wk) : ∀ k, lackTo ts ws w0 k = 0
  | 0 => by
    rw [lackTo]
    have : pop w0 = 0 := by
      unfold pop popTo
      rw [List.countP_eq_zero]
      intro i _
      rw [b_0]
      simp
    rw [this]; rfl
  | k + 1 => by
    have h : ¬ wantsTo ts (ws.getD k (0, w0)) w0 ts.length = true := by
      rw [wantsTo_iff]
      rintro ⟨j, _, h, _⟩
      rw [b_0] at h; cases h
    rw [lackTo, if_neg h, lackTo_0 ts ws k]
theorem room_ok {ws : List Wk} {m : Nat} (h : placeCheck ws m = 0) : ws.length ≤ 6 ∧ m ≤ 12 ∧ ∀ k, 0 ≤ (ws.getD k (0, w0)).1 ∧ (ws.getD k (0, w0)).1 ≤ 12 := by
  unfold placeCheck at h
  split at h
  · omega
  · split at h
    · omega
    · rename_i h1 h2
      refine ⟨by omega, by omega, fun k => ?_⟩
      by_cases hk : k < ws.length
      · have e : ws.getD k (0, w0) = ws[k] := by simp [List.getD_eq_getElem?_getD, hk]
        rw [e]
        have := List.any_eq_false.1 (by simpa using h2) ws[k] (List.getElem_mem hk)
        unfold badRoom at this
        simp at this
        omega
      · simp [List.getD_eq_getElem?_getD, show ws.length ≤ k by omega]
theorem lackTo_bounds {ts : List (BitVec 32)} {ws : List Wk} (h : ∀ k, 0 ≤ (ws.getD k (0, w0)).1 ∧ (ws.getD k (0, w0)).1 ≤ 12) (s : BitVec 32) : ∀ k : Nat, -(12 * k : Int) ≤ lackTo ts ws s k ∧ lackTo ts ws s k ≤ 32
  | 0 => by
    have := pop_le s
    rw [lackTo]
    omega
  | k + 1 => by
    have ih := lackTo_bounds (ts := ts) h s k
    have := h k
    rw [lackTo]
    split <;> omega
theorem pow_le_4096 {N : Nat} (hN : N ≤ 12) : 2 ^ N ≤ 4096 := by
  have := Nat.pow_le_pow_right (show 0 < 2 by omega) hN
  simpa using this
end Go.Proofs.Ytdinknpagklkjaa

/- The net of workers and tasks, and the placing task by task, in plain Lean. Conditions: none. -/
namespace Go.Proofs.Ytdinknpagklkjaa
open Go.RowKit

/-- A flow's worth that a cut bounds. -/
def IsMx (N : Nat) (l : List Arc) (s t : Nat) (v : Int) : Prop := (∃ gs, FlowV N l gs s t v) ∧ ∃ p : Int → Bool, p s = true ∧ p t = false ∧ capP p l = v
noncomputable def maxV (N : Nat) (l : List Arc) (s t : Nat) : Int := open Classical in if h : ∃ v, IsMx N l s t v then h.choose else 0
theorem IsMx.same {N : Nat} {l : List Arc} {s t : Nat} {v v' : Int} (hin : InN N l) (hs : s < N) (h : IsMx N l s t v) (h' : IsMx N l s t v') : v = v' := by
  obtain ⟨⟨gs, hf⟩, p, p1, p2, p3⟩ := h
  obtain ⟨⟨gs', hf'⟩, p', q1, q2, q3⟩ := h'
  have h1 := hf.weak hin hs q1 q2
  have h2 := hf'.weak hin hs p1 p2
  omega
theorem maxV_is {N : Nat} {l : List Arc} {s t : Nat} {v : Int} (hin : InN N l) (hs : s < N) (h : IsMx N l s t v) : maxV N l s t = v := by
  unfold maxV
  have hex : ∃ v, IsMx N l s t v := ⟨v, h⟩
  rw [dif_pos hex]
  exact IsMx.same hin hs hex.choose_spec h
abbrev wk (ws : List Wk) (j : Nat) : Wk := ws.getD j (0, w0)
def taskArcs (W : Nat) (k : Wk) (ts : List (BitVec 32)) (j i : Nat) : List Arc := (List.range i).flatMap fun q : Nat => if mayW (lw ts q) k = true then [⟨(W : Int) + q, j, 1, 0⟩] else []
def rowArcs (W M : Nat) (ws : List Wk) (ts : List (BitVec 32)) (room : List Int) (j i : Nat) : List Arc := ⟨j, (W : Int) + M + 1, room.getD j 0, 0⟩ :: taskArcs W (wk ws j) ts j i
def wkArcs (W M : Nat) (ws : List Wk) (ts : List (BitVec 32)) (room : List Int) (j : Nat) : List Arc := (List.range j).flatMap fun p => rowArcs W M ws ts room p M
def srcArcs (W M i : Nat) : List Arc := (List.range i).map fun q : Nat => ⟨(W : Int) + M, (W : Int) + q, 1, 0⟩
def netOf (ws : List Wk) (ts : List (BitVec 32)) (room : List Int) : List Arc := wkArcs ws.length ts.length ws ts room ws.length ++ srcArcs ws.length ts.length ts.length
theorem taskArcs_succ (W : Nat) (k : Wk) (ts : List (BitVec 32)) (j i : Nat) : taskArcs W k ts j (i + 1) = taskArcs W k ts j i ++ if mayW (lw ts i) k = true then [⟨(W : Int) + i, j, 1, 0⟩] else [] := by
  unfold taskArcs
  rw [List.range_succ, List.flatMap_append]
  simp
theorem wkArcs_succ (W M : Nat) (ws : List Wk) (ts : List (BitVec 32)) (room : List Int) (j : Nat) : wkArcs W M ws ts room (j + 1) = wkArcs W M ws ts room j ++ rowArcs W M ws ts room j M := by
  unfold wkArcs
  rw [List.range_succ, List.flatMap_append]
  simp
theorem srcArcs_succ (W M i : Nat) : srcArcs W M (i + 1) = srcArcs W M i ++ [⟨(W : Int) + M, (W : Int) + i, 1, 0⟩] := by
  unfold srcArcs
  rw [List.range_succ, List.map_append]
  rfl
theorem taskArcs_len (W : Nat) (k : Wk) (ts : List (BitVec 32)) (j : Nat) : ∀ i, (taskArcs W k ts j i).length ≤ i
  | 0 => by simp [taskArcs]
  | i + 1 => by
    have := taskArcs_len W k ts j i
    rw [taskArcs_succ, List.length_append]
    split <;> simp <;> omega
theorem wkArcs_len (W M : Nat) (ws : List Wk) (ts : List (BitVec 32)) (room : List Int) : ∀ j, (wkArcs W M ws ts room j).length ≤ j * (M + 1)
  | 0 => by simp [wkArcs]
  | j + 1 => by
    have h1 := wkArcs_len W M ws ts room j
    have h2 := taskArcs_len W (wk ws j) ts j M
    rw [wkArcs_succ, List.length_append, Nat.succ_mul]
    unfold rowArcs
    rw [List.length_cons]
    omega
theorem srcArcs_len (W M i : Nat) : (srcArcs W M i).length = i := by simp [srcArcs]
theorem taskArcs_mem {W : Nat} {k : Wk} {ts : List (BitVec 32)} {j i : Nat} {a : Arc} (h : a ∈ taskArcs W k ts j i) : ∃ q, q < i ∧ mayW (lw ts q) k = true ∧ a = ⟨(W : Int) + q, j, 1, 0⟩ := by
  unfold taskArcs at h
  obtain ⟨q, hq, ha⟩ := List.mem_flatMap.1 h
  split at ha
  · rename_i hm
    rw [List.mem_singleton] at ha
    exact ⟨q, List.mem_range.1 hq, hm, ha⟩
  · cases ha
theorem netOf_mem {ws : List Wk} {ts : List (BitVec 32)} {room : List Int} {a : Arc} (h : a ∈ netOf ws ts room) : (∃ j, j < ws.length ∧ a = ⟨j, (ws.length : Int) + ts.length + 1, room.getD j 0, 0⟩) ∨ (∃ j q, j < ws.length ∧ q < ts.length ∧ mayW (lw ts q) (wk ws j) = true ∧ a = ⟨(ws.length : Int) + q, j, 1, 0⟩) ∨ ∃ q : Nat, q < ts.length ∧ a = ⟨(ws.length : Int) + ts.length, (ws.length : Int) + q, 1, 0⟩ := by
  unfold netOf at h
  rcases List.mem_append.1 h with h | h
  · obtain ⟨j, hj, ha⟩ := List.mem_flatMap.1 h
    have hj := List.mem_range.1 hj
    unfold rowArcs at ha
    rcases List.mem_cons.1 ha with rfl | ha
    · exact .inl ⟨j, hj, rfl⟩
    · obtain ⟨q, h1, h2, h3⟩ := taskArcs_mem ha
      exact .inr (.inl ⟨j, q, hj, h1, h2, h3⟩)
  · unfold srcArcs at h
    obtain ⟨q, hq, rfl⟩ := List.mem_map.1 h
    exact .inr (.inr ⟨q, List.mem_range.1 hq, rfl⟩)
noncomputable def manyV (ws : List Wk) (ts : List (BitVec 32)) (room : List Int) : Int := maxV (ws.length + ts.length + 2) (netOf ws ts room) (ws.length + ts.length) (ws.length + ts.length + 1)
theorem netOf_in (ws : List Wk) (ts : List (BitVec 32)) (room : List Int) : InN (ws.length + ts.length + 2) (netOf ws ts room) := by
  intro a ha
  rcases netOf_mem ha with ⟨j, hj, rfl⟩ | ⟨j, q, hj, hq, _, rfl⟩ | ⟨q, hq, rfl⟩ <;> simp only <;> omega
theorem netOf_cap {ws : List Wk} {ts : List (BitVec 32)} {room : List Int} (hr : ∀ j, 0 ≤ room.getD j 0 ∧ room.getD j 0 ≤ 12) : ∀ a ∈ netOf ws ts room, 0 ≤ a.m ∧ a.m ≤ 1048576 := by
  intro a ha
  rcases netOf_mem ha with ⟨j, hj, rfl⟩ | ⟨j, q, hj, hq, _, rfl⟩ | ⟨q, hq, rfl⟩ <;> simp only
  · have := hr j
    omega
  · omega
  · omega
noncomputable def seatB (ws : List Wk) (t : BitVec 32) (ts : List (BitVec 32)) (room : List Int) (left : Int) (j : Nat) : Bool :=
  mayW t (wk ws j) && (room.getD j 0 != 0) && (1 + manyV ws ts (room.set j (room.getD j 0 - 1)) == left)
noncomputable def pickJ (ws : List Wk) (t : BitVec 32) (ts : List (BitVec 32)) (room : List Int) (left : Int) : Option Nat := (List.range ws.length).find? (seatB ws t ts room left)
noncomputable def mostG (ws : List Wk) : List (BitVec 32) → List Int → Int → List Int
  | [], _, _ => []
  | t :: ts, room, left => match pickJ ws t ts room left with
    | some j => (j : Int) :: mostG ws ts (room.set j (room.getD j 0 - 1)) (left - 1)
    | none => -1 :: mostG ws ts room left
noncomputable def mostF (ws : List Wk) (ts : List (BitVec 32)) : List Int := mostG ws ts (ws.map (·.1)) (manyV ws ts (ws.map (·.1)))
theorem mostG_len (ws : List Wk) : ∀ (ts : List (BitVec 32)) (room : List Int) (left : Int), (mostG ws ts room left).length = ts.length
  | [], _, _ => rfl
  | t :: ts, room, left => by
    unfold mostG
    split
    · rw [List.length_cons, mostG_len, List.length_cons]
    · rw [List.length_cons, mostG_len, List.length_cons]
theorem mostF_len (ws : List Wk) (ts : List (BitVec 32)) : (mostF ws ts).length = ts.length := mostG_len _ _ _ _
end Go.Proofs.Ytdinknpagklkjaa

/- May a task be with a worker: the program. Conditions: none. -/
namespace Go.Proofs.Ytdinknpagklkjaa
open Go.RowKit
attribute [local go_sem ↓] w_and w_or w_xor w_andNot w_and1 w_and255 w_xor1 w_or0 w_shl w_shl1 w_shr w_sub w_add w_sub1 w_add1
attribute [local go_sem] w_eq0 w_ne0 w_eq1 w_eq w_ne

theorem plc_may (a : Wk) (t : BitVec 32) (w : World) :
    Calls Try.prog 47 #[.agg #[.int .i64 a.1, .int .u32 (wN a.2)], .int .u32 (wN t)] w fun e w' => e = .returned (.bool (mayW t a)) ∧ w.alloc (.cells #[.int .i64 a.1, .int .u32 (wN a.2)] 39) = w' := by
  have h1 := (Blk.new w 39 #[.int .i64 a.1, .int .u32 (wN a.2)]).cell 1
  go_enter Try.func47, Try.ntmps47
  go_wp2_with fail
  go_ret
  exact ⟨rfl, rfl⟩
end Go.Proofs.Ytdinknpagklkjaa
