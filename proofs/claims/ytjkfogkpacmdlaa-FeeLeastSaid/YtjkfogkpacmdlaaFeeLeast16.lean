/- Flows in plain Lean: what goes out of a node, what a set of nodes lets go, a way with room pushed on. Conditions: none. -/
import Derived.Test.YtjkfogkpacmdlaaFeeLeast12
namespace Go.Proofs.Ytjkfogkpacmdlaa
open Go.RowKit

abbrev z4 : Arc := ⟨0, 0, 0, 0⟩
/-- What leaves a node less what comes. -/
def netO : List Arc → List Int → Int → Int
  | a :: l, g :: gs, j => (if a.f = j then g else 0) - (if a.t = j then g else 0) + netO l gs j
  | _, _, _ => 0
def crossO (p : Int → Bool) : List Arc → List Int → Int
  | a :: l, g :: gs => (if p a.f then g else 0) - (if p a.t then g else 0) + crossO p l gs
  | _, _ => 0
def sumN (p : Int → Bool) (h : Int → Int) : Nat → Int
  | 0 => 0
  | n + 1 => sumN p h n + if p n then h n else 0
/-- What a set lets go. -/
def capP (p : Int → Bool) : List Arc → Int
  | [] => 0
  | a :: l => (if p a.f && !p a.t then a.m else 0) + capP p l
def CapOk : List Arc → List Int → Prop
  | [], [] => True
  | a :: l, g :: gs => (0 ≤ g ∧ g ≤ a.m) ∧ CapOk l gs
  | _, _ => False
def InN (N : Nat) (l : List Arc) : Prop := ∀ a ∈ l, 0 ≤ a.f ∧ a.f < N ∧ 0 ≤ a.t ∧ a.t < N ∧ a.f ≠ a.t
theorem CapOk.len : ∀ {l : List Arc} {gs : List Int}, CapOk l gs → gs.length = l.length
  | [], [], _ => rfl
  | a :: l, g :: gs, h => by rw [List.length_cons, List.length_cons, h.2.len]
  | [], g :: gs, h => h.elim
  | a :: l, [], h => h.elim
theorem CapOk.at_ : ∀ {l : List Arc} {gs : List Int}, CapOk l gs → ∀ {i : Nat}, i < l.length → 0 ≤ gs.getD i 0 ∧ gs.getD i 0 ≤ (l.getD i z4).m
  | a :: l, g :: gs, h, 0, _ => h.1
  | a :: l, g :: gs, h, i + 1, hi => by
    have := h.2.at_ (i := i) (by simpa using hi)
    simpa using this
  | [], _, _, _, hi => by simp at hi
  | a :: l, [], h, _, _ => h.elim
theorem CapOk.set_ : ∀ {l : List Arc} {gs : List Int}, CapOk l gs → ∀ {i : Nat} {x : Int}, 0 ≤ x → x ≤ (l.getD i z4).m → CapOk l (gs.set i x)
  | a :: l, g :: gs, h, 0, x, h0, h1 => ⟨⟨h0, h1⟩, h.2⟩
  | a :: l, g :: gs, h, i + 1, x, h0, h1 => ⟨h.1, h.2.set_ h0 (by simpa using h1)⟩
  | [], [], _, _, _, _, _ => trivial
  | [], g :: gs, h, _, _, _, _ => h.elim
  | a :: l, [], h, _, _, _, _ => h.elim
theorem CapOk.zero : ∀ {l : List Arc}, (∀ a ∈ l, 0 ≤ a.m) → CapOk l (List.replicate l.length 0)
  | [], _ => trivial
  | a :: l, h => ⟨⟨Int.le_refl _, h a List.mem_cons_self⟩, CapOk.zero fun b hb => h b (List.mem_cons_of_mem _ hb)⟩
theorem sumN_add (p : Int → Bool) (h k : Int → Int) : ∀ n, sumN p (fun j => h j + k j) n = sumN p h n + sumN p k n
  | 0 => rfl
  | n + 1 => by
    unfold sumN
    rw [sumN_add p h k n]
    split <;> omega
theorem sumN_zero (p : Int → Bool) {h : Int → Int} : ∀ n : Nat, (∀ j : Nat, j < n → p j = true → h j = 0) → sumN p h n = 0
  | 0, _ => rfl
  | n + 1, hz => by
    unfold sumN
    rw [sumN_zero p n fun j hj => hz j (by omega)]
    split
    · rename_i hp
      rw [hz n (by omega) hp]
      rfl
    · rfl
theorem sumN_one (p : Int → Bool) {h : Int → Int} {s : Nat} (hp : p s = true) : ∀ n : Nat, s < n → (∀ j : Nat, j < n → j ≠ s → p j = true → h j = 0) → sumN p h n = h s
  | 0, hs, _ => by omega
  | n + 1, hs, hz => by
    unfold sumN
    by_cases hn : n = s
    · subst hn
      rw [sumN_zero p n fun j hj hpj => hz j (by omega) (by omega) hpj, if_pos hp]
      omega
    · rw [sumN_one p hp n (by omega) fun j hj => hz j (by omega)]
      split
      · rename_i hpn
        rw [hz n (by omega) hn hpn]
        omega
      · omega
theorem sumN_ite (p : Int → Bool) (c : Int) (g : Int) {N : Nat} (h0 : 0 ≤ c) (h1 : c < N) : sumN p (fun j => if c = j then g else 0) N = if p c then g else 0 := by
  obtain ⟨k, rfl⟩ : ∃ k : Nat, c = k := ⟨c.toNat, by omega⟩
  cases hp : p k with
  | true =>
    rw [sumN_one p hp N (by omega) fun j _ hj _ => if_neg (by omega)]
    simp
  | false =>
    rw [sumN_zero p N fun j _ hpj => if_neg (fun e => by
      have : k = j := by omega
      rw [this, hpj] at hp
      cases hp)]
    simp
theorem sumN_neg (p : Int → Bool) (h : Int → Int) : ∀ n, sumN p (fun j => -h j) n = -sumN p h n
  | 0 => rfl
  | n + 1 => by
    unfold sumN
    rw [sumN_neg p h n]
    split <;> omega
theorem sum_net (p : Int → Bool) {N : Nat} : ∀ (l : List Arc) (gs : List Int), InN N l → sumN p (netO l gs) N = crossO p l gs
  | [], gs, _ => by
    have : netO [] gs = fun _ => 0 := by funext j; cases gs <;> rfl
    rw [this, sumN_zero p N fun _ _ _ => rfl]
    cases gs <;> rfl
  | a :: l, [], _ => by
    have : netO (a :: l) [] = fun _ => 0 := by funext j; rfl
    rw [this, sumN_zero p N fun _ _ _ => rfl]
    rfl
  | a :: l, g :: gs, h => by
    obtain ⟨h1, h2, h3, h4, _⟩ := h a List.mem_cons_self
    have : netO (a :: l) (g :: gs) = fun j => ((fun j => if a.f = j then g else 0) j + (fun j => -(fun j => if a.t = j then g else 0) j) j) + netO l gs j := by
      funext j
      simp only [netO]
      omega
    rw [this, sumN_add, sumN_add, sumN_neg, sumN_ite p _ _ h1 h2, sumN_ite p _ _ h3 h4, sum_net p l gs fun b hb => h b (List.mem_cons_of_mem _ hb)]
    simp only [crossO]
    omega
theorem cross_le (p : Int → Bool) : ∀ {l : List Arc} {gs : List Int}, CapOk l gs → crossO p l gs ≤ capP p l
  | [], [], _ => Int.le_refl _
  | a :: l, g :: gs, h => by
    have h1 := cross_le p h.2
    obtain ⟨h2, h3⟩ := h.1
    unfold crossO capP
    cases p a.f <;> cases p a.t <;> simp <;> omega
  | [], g :: gs, h => h.elim
  | a :: l, [], h => h.elim
theorem cross_full (p : Int → Bool) : ∀ {l : List Arc} {gs : List Int}, CapOk l gs → (∀ i, i < l.length → (p (l.getD i z4).f = true → p (l.getD i z4).t = false → gs.getD i 0 = (l.getD i z4).m) ∧ (p (l.getD i z4).f = false → p (l.getD i z4).t = true → gs.getD i 0 = 0)) → crossO p l gs = capP p l
  | [], [], _, _ => rfl
  | a :: l, g :: gs, h, hf => by
    have h1 := cross_full p h.2 fun i hi => by have := hf (i + 1) (by simpa using hi); simpa using this
    have h0 := hf 0 (by simp)
    simp at h0
    unfold crossO capP
    rw [h1]
    cases hpf : p a.f <;> cases hpt : p a.t <;> simp [hpf, hpt] at h0 ⊢ <;> omega
  | [], g :: gs, h, _ => h.elim
  | a :: l, [], h, _ => h.elim
/-- A flow of a value. -/
structure FlowV (N : Nat) (l : List Arc) (gs : List Int) (s t : Nat) (v : Int) : Prop where
  cap : CapOk l gs
  mid : ∀ j : Nat, j < N → j ≠ s → j ≠ t → netO l gs j = 0
  src : netO l gs s = v
theorem FlowV.cross {N : Nat} {l : List Arc} {gs : List Int} {s t : Nat} {v : Int} (h : FlowV N l gs s t v) (hin : InN N l) (hs : s < N) {p : Int → Bool} (ps : p s = true) (pt : p t = false) : crossO p l gs = v := by
  rw [← sum_net p l gs hin, sumN_one p ps N hs fun j hj hne hp => h.mid j hj hne (fun e => by rw [e, pt] at hp; cases hp)]
  exact h.src
theorem FlowV.weak {N : Nat} {l : List Arc} {gs : List Int} {s t : Nat} {v : Int} (h : FlowV N l gs s t v) (hin : InN N l) (hs : s < N) {p : Int → Bool} (ps : p s = true) (pt : p t = false) : v ≤ capP p l := by
  rw [← h.cross hin hs ps pt]
  exact cross_le p h.cap

/-- Steps: along an arc, or back. -/
abbrev Stp := Nat × Bool
def stF (l : List Arc) (x : Stp) : Int := fromS (l.getD x.1 z4) x.2
def stT (l : List Arc) (x : Stp) : Int := toS (l.getD x.1 z4) x.2
def stR (l : List Arc) (gs : List Int) (x : Stp) : Int := roomS (l.getD x.1 z4) (gs.getD x.1 0) x.2
/-- No step with room leads out of a set: it lets go what goes. -/
theorem closed_full {l : List Arc} {gs : List Int} (p : Int → Bool) (hc : CapOk l gs) (h : ∀ x : Stp, x.1 < l.length → 0 < stR l gs x → p (stF l x) = true → p (stT l x) = true) : crossO p l gs = capP p l := by
  refine cross_full p hc fun i hi => ?_
  have hb := hc.at_ hi
  refine ⟨fun h1 h2 => ?_, fun h1 h2 => ?_⟩
  · refine Classical.byContradiction fun hne => ?_
    have := h (i, false) hi (by show 0 < (l.getD i z4).m - gs.getD i 0; omega) h1
    have h3 : p (l.getD i z4).t = true := this
    rw [h2] at h3
    cases h3
  · refine Classical.byContradiction fun hne => ?_
    have := h (i, true) hi (by show 0 < gs.getD i 0; omega) h2
    have h3 : p (l.getD i z4).f = true := this
    rw [h1] at h3
    cases h3
theorem netO_set : ∀ (l : List Arc) (gs : List Int) (i : Nat) (x j : Int), gs.length = l.length → i < l.length →
    netO l (gs.set i x) j = netO l gs j + (if (l.getD i z4).f = j then x - gs.getD i 0 else 0) - (if (l.getD i z4).t = j then x - gs.getD i 0 else 0)
  | a :: l, g :: gs, 0, x, j, _, _ => by
    simp only [List.set_cons_zero, netO, List.getD_cons_zero]
    split <;> split <;> omega
  | a :: l, g :: gs, i + 1, x, j, hl, hi => by
    have := netO_set l gs i x j (by simpa using hl) (by simpa using hi)
    simp only [List.set_cons_succ, netO, List.getD_cons_succ]
    rw [this]
    omega
  | [], _, i, x, j, _, hi => by simp at hi
  | a :: l, [], i, x, j, hl, _ => by simp at hl
def push1 (u : Int) (gs : List Int) (x : Stp) : List Int := gs.set x.1 (if x.2 then gs.getD x.1 0 - u else gs.getD x.1 0 + u)
theorem push1_length (u : Int) (gs : List Int) (x : Stp) : (push1 u gs x).length = gs.length := by simp [push1]
theorem netO_push1 {l : List Arc} {gs : List Int} {x : Stp} (u j : Int) (hl : gs.length = l.length) (hx : x.1 < l.length) : netO l (push1 u gs x) j = netO l gs j + (if stF l x = j then u else 0) - (if stT l x = j then u else 0) := by
  obtain ⟨i, b⟩ := x
  unfold push1
  rw [netO_set l gs i _ j hl hx]
  cases b with
  | false =>
    show _ + (if (l.getD i z4).f = j then _ else 0) - (if (l.getD i z4).t = j then _ else 0) = _ + (if (l.getD i z4).f = j then u else 0) - (if (l.getD i z4).t = j then u else 0)
    simp only [Bool.false_eq_true, if_false]
    split <;> split <;> omega
  | true =>
    show _ + (if (l.getD i z4).f = j then _ else 0) - (if (l.getD i z4).t = j then _ else 0) = _ + (if (l.getD i z4).t = j then u else 0) - (if (l.getD i z4).f = j then u else 0)
    simp only [if_true]
    split <;> split <;> omega
def pushL (u : Int) (gs : List Int) (ws : List Stp) : List Int := ws.foldl (push1 u) gs
theorem pushL_length (u : Int) : ∀ (ws : List Stp) (gs : List Int), (pushL u gs ws).length = gs.length
  | [], _ => rfl
  | x :: ws, gs => by
    show (pushL u (push1 u gs x) ws).length = _
    rw [pushL_length u ws, push1_length]
/-- Steps one behind the other, from a node to a node. -/
def ChS (l : List Arc) : Int → List Stp → Int → Prop
  | a, [], b => a = b
  | a, x :: ws, b => stF l x = a ∧ ChS l (stT l x) ws b
theorem netO_push {l : List Arc} (u j : Int) : ∀ (ws : List Stp) (gs : List Int) (a b : Int), gs.length = l.length → (∀ x ∈ ws, x.1 < l.length) → ChS l a ws b → netO l (pushL u gs ws) j = netO l gs j + (if a = j then u else 0) - (if b = j then u else 0)
  | [], gs, a, b, _, _, h => by
    have : a = b := h
    rw [this]
    show netO l gs j = _
    omega
  | x :: ws, gs, a, b, hl, hx, h => by
    show netO l (pushL u (push1 u gs x) ws) j = _
    rw [netO_push u j ws _ (stT l x) b (by rw [push1_length]; exact hl) (fun y hy => hx y (List.mem_cons_of_mem _ hy)) h.2, netO_push1 u j hl (hx x List.mem_cons_self), h.1]
    omega
theorem cap_push {l : List Arc} {u : Int} (hu : 0 ≤ u) : ∀ (ws : List Stp) (gs : List Int), CapOk l gs → (ws.map Prod.fst).Nodup → (∀ x ∈ ws, x.1 < l.length ∧ u ≤ stR l gs x) → CapOk l (pushL u gs ws)
  | [], _, h, _, _ => h
  | x :: ws, gs, h, hn, hr => by
    have hn' := List.nodup_cons.1 hn
    obtain ⟨hx, hrx⟩ := hr x List.mem_cons_self
    have hb := h.at_ hx
    have h1 : CapOk l (push1 u gs x) := by
      unfold push1
      obtain ⟨i, b⟩ := x
      cases b with
      | false =>
        have : u ≤ (l.getD i z4).m - gs.getD i 0 := hrx
        refine h.set_ ?_ ?_ <;> simp only [Bool.false_eq_true, if_false] at * <;> omega
      | true =>
        have : u ≤ gs.getD i 0 := hrx
        refine h.set_ ?_ ?_ <;> simp only [if_true] at * <;> omega
    refine cap_push hu ws _ h1 hn'.2 fun y hy => ?_
    obtain ⟨hy1, hy2⟩ := hr y (List.mem_cons_of_mem _ hy)
    refine ⟨hy1, ?_⟩
    have hne : x.1 ≠ y.1 := fun e => hn'.1 (by show x.1 ∈ ws.map Prod.fst; rw [e]; exact List.mem_map.2 ⟨y, hy, rfl⟩)
    unfold stR push1 at *
    have e : ∀ v : Int, (gs.set x.1 v).getD y.1 0 = gs.getD y.1 0 := fun v => by
      rw [List.getD_eq_getElem?_getD, List.getD_eq_getElem?_getD, List.getElem?_set_ne hne]
    rw [e]
    exact hy2
/-- On a way whose nodes come in an order no arc is met twice. -/
theorem arcs_nodup {l : List Arc} (rk : Int → Nat) : ∀ (ws : List Stp) (a b : Int), ChS l a ws b → (∀ x ∈ ws, rk (stF l x) < rk (stT l x)) → (ws.map Prod.fst).Nodup ∧ ∀ x ∈ ws, rk a ≤ rk (stF l x)
  | [], _, _, _, _ => ⟨List.nodup_nil, fun x hx => by cases hx⟩
  | x :: ws, a, b, h, hr => by
    obtain ⟨h1, h2⟩ := arcs_nodup rk ws (stT l x) b h.2 fun y hy => hr y (List.mem_cons_of_mem _ hy)
    have hx := hr x List.mem_cons_self
    refine ⟨List.nodup_cons.2 ⟨fun hm => ?_, h1⟩, fun y hy => ?_⟩
    · obtain ⟨y, hy, he⟩ := List.mem_map.1 hm
      have h3 := h2 y hy
      have h4 := hr y (List.mem_cons_of_mem _ hy)
      have he' : y.1 = x.1 := he
      obtain ⟨i, bx⟩ := x
      obtain ⟨i', b'⟩ := y
      have hii : i' = i := he'
      subst hii
      unfold stF stT fromS toS at *
      cases bx <;> cases b' <;> simp at hx h3 h4 <;> omega
    · rcases List.mem_cons.1 hy with rfl | hy
      · rw [h.1]
        exact Nat.le_refl _
      · have := h2 y hy
        have h0 := h.1
        rw [h0] at hx
        omega
theorem FlowV.push {N : Nat} {l : List Arc} {gs : List Int} {s t : Nat} {v u : Int} {ws : List Stp} (h : FlowV N l gs s t v) (hst : s ≠ t) (hu : 0 ≤ u) (hch : ChS l s ws t) (rk : Int → Nat) (hr : ∀ x ∈ ws, x.1 < l.length ∧ u ≤ stR l gs x ∧ rk (stF l x) < rk (stT l x)) : FlowV N l (pushL u gs ws) s t (v + u) := by
  have hn := (arcs_nodup rk ws s t hch fun x hx => (hr x hx).2.2).1
  have hp := fun j => netO_push u j ws gs s t h.cap.len (fun x hx => (hr x hx).1) hch
  refine ⟨cap_push hu ws gs h.cap hn fun x hx => ⟨(hr x hx).1, (hr x hx).2.1⟩, fun j hj h1 h2 => ?_, ?_⟩
  · rw [hp, h.mid j hj h1 h2, if_neg (by omega), if_neg (by omega)]
    rfl
  · rw [hp, h.src, if_pos rfl, if_neg (by omega)]
    omega
end Go.Proofs.Ytjkfogkpacmdlaa
