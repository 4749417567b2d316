/- A union of parts, and the least forest, in plain Lean. Conditions: none. -/
import Derived.Test.YtjkfogkpacmdlaaDistP
import Derived.Test.YtjkfogkpacmdlaaStbJ
import Derived.Test.YtjkfogkpacmdlaaSortK
namespace Go.Proofs.Ytjkfogkpacmdlaa
open Go.RowKit

/-- A row of chiefs: every one is nobody's, or its chief comes ahead of it; `rt` is the chief of all above it. -/
structure UF (N : Nat) (up : List Int) (rt : Nat → Nat) : Prop where
  len : up.length = N
  low : ∀ v, v < N → ∃ x : Nat, x ≤ v ∧ up.getD v 0 = (x : Int) ∧ rt x = rt v ∧ (x = v ↔ rt v = v)
theorem UF.rt_le {N : Nat} {up : List Int} {rt : Nat → Nat} (h : UF N up rt) : ∀ n v, v ≤ n → v < N → rt v ≤ v ∧ rt (rt v) = rt v := by
  intro n
  induction n with
  | zero =>
    intro v hv hN
    obtain ⟨x, h1, _, h3, h4⟩ := h.low v hN
    obtain rfl : x = v := by omega
    have := h4.1 rfl
    rw [this]
    exact ⟨Nat.le_refl _, this⟩
  | succ n ih =>
    intro v hv hN
    obtain ⟨x, h1, _, h3, h4⟩ := h.low v hN
    by_cases hx : x = v
    · have := h4.1 hx
      rw [this]
      exact ⟨Nat.le_refl _, this⟩
    · have := ih x (by omega) (by omega)
      rw [h3] at this
      exact ⟨by omega, this.2⟩
theorem UF.le {N : Nat} {up : List Int} {rt : Nat → Nat} (h : UF N up rt) {v : Nat} (hv : v < N) : rt v ≤ v := (h.rt_le v v (Nat.le_refl _) hv).1
theorem UF.idem {N : Nat} {up : List Int} {rt : Nat → Nat} (h : UF N up rt) {v : Nat} (hv : v < N) : rt (rt v) = rt v := (h.rt_le v v (Nat.le_refl _) hv).2
theorem UF.start (N : Nat) : UF N (restL N 0) id := ⟨restL_len N, fun v hv => ⟨v, Nat.le_refl _, restL_getD hv, rfl, fun _ => rfl, fun _ => rfl⟩⟩
/-- The higher of two chiefs is put under the lower. -/
def joinR (rt : Nat → Nat) (a b : Nat) (v : Nat) : Nat := if rt v = max a b then min a b else rt v
theorem UF.join {N : Nat} {up : List Int} {rt : Nat → Nat} (h : UF N up rt) {a b : Nat} (ha : a < N) (hb : b < N) (ra : rt a = a) (rb : rt b = b) : UF N (up.set (max a b) ((min a b : Nat) : Int)) (joinR rt a b) := by
  have hmax : max a b < N := by omega
  have rmin : rt (min a b) = min a b := by rw [Nat.min_def]; split <;> assumption
  have rmax : rt (max a b) = max a b := by rw [Nat.max_def]; split <;> assumption
  refine ⟨by rw [List.length_set, h.len], fun v hv => ?_⟩
  by_cases hvm : v = max a b
  · subst hvm
    refine ⟨min a b, by omega, ?_, ?_, ?_⟩
    · rw [List.getD_eq_getElem?_getD, List.getElem?_set_self (by rw [h.len]; exact hmax)]; rfl
    · unfold joinR
      rw [rmin, rmax, if_pos rfl]
      split <;> rfl
    · unfold joinR
      rw [rmax, if_pos rfl]
  · obtain ⟨x, h1, h2, h3, h4⟩ := h.low v hv
    refine ⟨x, h1, ?_, ?_, ?_⟩
    · rw [List.getD_eq_getElem?_getD, List.getElem?_set_ne (fun e => hvm e.symm), ← List.getD_eq_getElem?_getD, h2]
    · unfold joinR
      rw [h3]
    · rw [h4]
      unfold joinR
      constructor
      · intro e
        rw [if_neg (by rw [e]; exact hvm), e]
      · intro e
        split at e
        · rename_i hr
          rw [← e] at hvm hr
          rw [rmin] at hr
          omega
        · exact e
/-- Who is linked has the same chief, and the other way round. -/
structure Lnk (N : Nat) (S : List Ed) (rt : Nat → Nat) : Prop where
  one : ∀ v x, v < N → x < N → (rt v = rt x ↔ Rch (Adj S) v x)
  low : ∀ c j, Adj S c j → c < N ∧ j < N
theorem Rch.refl' {R : Nat → Nat → Prop} (i : Nat) : Rch R i i := ⟨0, .start⟩
theorem Rch.trans' {R : Nat → Nat → Prop} {i j k : Nat} (h : Rch R i j) (h' : Rch R j k) : Rch R i k := by
  obtain ⟨m, hm⟩ := h
  obtain ⟨m', hm'⟩ := h'
  exact ⟨_, hm.cat hm'⟩
theorem Rch.one' {R : Nat → Nat → Prop} {i j : Nat} (h : R i j) : Rch R i j := ⟨1, .step .start h⟩
theorem Rch.mono' {R R' : Nat → Nat → Prop} (hR : ∀ i j, R i j → R' i j) {i j : Nat} (h : Rch R i j) : Rch R' i j := rch_closed _ (Rch.refl' i) (fun c j hc hr => hc.trans' (Rch.one' (hR _ _ hr))) h
theorem adj_snoc (S : List Ed) (e : Ed) (i j : Nat) : Adj (S ++ [e]) i j ↔ Adj S i j ∨ joins i j e = true := by
  unfold Adj adj
  rw [List.any_append, Bool.or_eq_true]
  simp
theorem Lnk.start (N : Nat) : Lnk N [] id := ⟨fun v x _ _ => ⟨fun h => by
    have : v = x := h
    rw [this]
    exact Rch.refl' x, fun h => rch_closed (fun c => v = c) rfl (fun _ _ _ hr => by simp [Adj, adj] at hr) h⟩, fun _ _ hr => by simp [Adj, adj] at hr⟩
theorem Lnk.join {N : Nat} {S : List Ed} {rt : Nat → Nat} {up : List Int} (hu : UF N up rt) (h : Lnk N S rt) {e : Ed} {a b : Nat} (ha : e.a = a) (hb : e.b = b) (haN : a < N) (hbN : b < N) : Lnk N (S ++ [e]) (joinR rt (rt a) (rt b)) := by
  have hmono : ∀ i j, Rch (Adj S) i j → Rch (Adj (S ++ [e])) i j := fun i j => Rch.mono' fun i j hr => (adj_snoc S e i j).2 (.inl hr)
  have hjab : Adj (S ++ [e]) a b := (adj_snoc S e a b).2 (.inr (by unfold joins; exact decide_eq_true (.inl ⟨ha, hb⟩)))
  have hjba : Adj (S ++ [e]) b a := (adj_snoc S e b a).2 (.inr (by unfold joins; exact decide_eq_true (.inr ⟨ha, hb⟩)))
  have hra : rt a < N := Nat.lt_of_le_of_lt (hu.le haN) haN
  have hrb : rt b < N := Nat.lt_of_le_of_lt (hu.le hbN) hbN
  have key : joinR rt (rt a) (rt b) a = joinR rt (rt a) (rt b) b := by
    unfold joinR
    rcases Nat.le_total (rt a) (rt b) with k | k
    · rw [Nat.max_eq_right k, Nat.min_eq_left k, if_pos rfl]
      split <;> rfl
    · rw [Nat.max_eq_left k, Nat.min_eq_right k, if_pos rfl]
      split <;> rfl
  have hlow : ∀ c j, Adj (S ++ [e]) c j → c < N ∧ j < N := fun c j hr => by
    rcases (adj_snoc S e c j).1 hr with hr | hr
    · exact h.low c j hr
    · unfold joins at hr
      have := of_decide_eq_true hr
      omega
  refine ⟨fun v x hv hx => ⟨fun hh => ?_, fun hh => ?_⟩, hlow⟩
  · have same : ∀ y z, y < N → z < N → rt y = rt z → Rch (Adj (S ++ [e])) y z := fun y z hy hz hyz => hmono _ _ ((h.one y z hy hz).1 hyz)
    have ab : ∀ y z, y < N → z < N → (rt y = rt a ∨ rt y = rt b) → (rt z = rt a ∨ rt z = rt b) → Rch (Adj (S ++ [e])) y z := fun y z hy hz h1 h2 => by
      rcases h1 with h1 | h1 <;> rcases h2 with h2 | h2
      · exact same y z hy hz (h1.trans h2.symm)
      · exact ((same y a hy haN h1).trans' (Rch.one' hjab)).trans' (same b z hbN hz h2.symm)
      · exact ((same y b hy hbN h1).trans' (Rch.one' hjba)).trans' (same a z haN hz h2.symm)
      · exact same y z hy hz (h1.trans h2.symm)
    unfold joinR at hh
    have hmx : max (rt a) (rt b) = rt a ∨ max (rt a) (rt b) = rt b := by omega
    have hmn : min (rt a) (rt b) = rt a ∨ min (rt a) (rt b) = rt b := by omega
    split at hh
    · rename_i k1
      rw [← k1] at hmx
      split at hh
      · rename_i k2
        exact same v x hv hx (k1.trans k2.symm)
      · rw [hh] at hmn
        exact ab v x hv hx hmx hmn
    · split at hh
      · rename_i k2
        rw [← k2] at hmx
        rw [← hh] at hmn
        exact ab v x hv hx hmn hmx
      · exact same v x hv hx hh
  · have hN : ∀ c j, Adj (S ++ [e]) c j → c < N → j < N → joinR rt (rt a) (rt b) c = joinR rt (rt a) (rt b) j := fun c j hr hc hj => by
      rcases (adj_snoc S e c j).1 hr with hr | hr
      · have := (h.one c j hc hj).2 (Rch.one' hr)
        unfold joinR
        rw [this]
      · unfold joins at hr
        have := of_decide_eq_true hr
        rw [ha, hb] at this
        rcases this with ⟨h1, h2⟩ | ⟨h1, h2⟩
        · rw [← Int.ofNat.inj h1, ← Int.ofNat.inj h2]; exact key
        · rw [← Int.ofNat.inj h1, ← Int.ofNat.inj h2]; exact key.symm
    exact (rch_closed (fun c => c < N ∧ joinR rt (rt a) (rt b) v = joinR rt (rt a) (rt b) c) ⟨hv, rfl⟩ (fun c j hc hr => ⟨(hlow c j hr).2, hc.2.trans (hN c j hr hc.1 (hlow c j hr).2)⟩) hh).2

/-- The edge at a place. -/
def edAt (l : List Ed) (x : Int) : Ed := l.getD x.toNat ⟨0, 0, 0⟩
def valW (l : List Ed) (x : Int) : Int := (edAt l x).w
/-- Are the ends of the edge at a place linked by the edges at these places? -/
def linked (l : List Ed) (S : List Int) (x : Int) : Prop := Rch (Adj (S.map (edAt l))) (edAt l x).a.toNat (edAt l x).b.toNat
open Classical in
/-- Who is taken of a row of places: whose ends those ahead do not link. -/
noncomputable def takenL (l : List Ed) : List Int → List Int → List Int
  | _, [] => []
  | pre, x :: r => if linked l pre x then takenL l (pre ++ [x]) r else x :: takenL l (pre ++ [x]) r
open Classical in
theorem taken_snoc (l : List Ed) (x : Int) : ∀ (r pre : List Int), takenL l pre (r ++ [x]) = takenL l pre r ++ if linked l (pre ++ r) x then [] else [x]
  | [], pre => by
    simp only [List.nil_append, takenL, List.append_nil]
  | y :: r, pre => by
    rw [List.cons_append, takenL, takenL, taken_snoc l x r (pre ++ [y])]
    split
    · simp only [List.append_assoc, List.cons_append, List.nil_append]
    · simp only [List.append_assoc, List.cons_append, List.nil_append]
theorem linked_mem {l : List Ed} {S T : List Int} {x : Int} (h : ∀ y, y ∈ S ↔ y ∈ T) : linked l S x ↔ linked l T x := by
  have hA : ∀ i j, Adj (S.map (edAt l)) i j ↔ Adj (T.map (edAt l)) i j := fun i j => by
    unfold Adj adj
    simp only [List.any_eq_true, List.mem_map]
    constructor
    · rintro ⟨e, ⟨y, hy, rfl⟩, hj⟩
      exact ⟨_, ⟨y, (h y).1 hy, rfl⟩, hj⟩
    · rintro ⟨e, ⟨y, hy, rfl⟩, hj⟩
      exact ⟨_, ⟨y, (h y).2 hy, rfl⟩, hj⟩
  exact ⟨Rch.mono' fun i j => (hA i j).1, Rch.mono' fun i j => (hA i j).2⟩
/-- The places ahead of one. -/
def aheadL (l : List Ed) (n : Nat) (x : Int) : List Int := (restL n 0).filter fun y => decide (valW l y < valW l x ∨ (valW l y = valW l x ∧ y < x))
open Classical in
/-- The least forest: what the reference makes. -/
noncomputable def leastL (l : List Ed) (n k : Nat) : List Int := ((restL n 0).take k).filter fun x => !decide (linked l (aheadL l n x) x)
open Classical in
theorem mem_taken {l : List Ed} : ∀ (r pre : List Int) (x : Int), (pre ++ r).Nodup → (x ∈ takenL l pre r ↔ ∃ s t, r = s ++ x :: t ∧ ¬ linked l (pre ++ s) x)
  | [], pre, x, _ => by
    simp [takenL]
  | y :: r, pre, x, hnd => by
    have hnd' : (pre ++ [y] ++ r).Nodup := by simpa using hnd
    have ih := mem_taken (l := l) r (pre ++ [y]) x hnd'
    have hyr : y ∉ r := by
      have := (List.nodup_append.1 hnd).2.1
      exact (List.nodup_cons.1 this).1
    rw [takenL]
    constructor
    · intro h
      by_cases hl : linked l pre y
      · rw [if_pos hl] at h
        obtain ⟨s, t, h1, h2⟩ := ih.1 h
        exact ⟨y :: s, t, by rw [h1]; rfl, by simpa using h2⟩
      · rw [if_neg hl] at h
        rcases List.mem_cons.1 h with rfl | h
        · exact ⟨[], r, rfl, by simpa using hl⟩
        · obtain ⟨s, t, h1, h2⟩ := ih.1 h
          exact ⟨y :: s, t, by rw [h1]; rfl, by simpa using h2⟩
    · rintro ⟨s, t, h1, h2⟩
      match s, h1, h2 with
      | [], h1, h2 =>
        simp only [List.nil_append, List.cons.injEq] at h1
        obtain ⟨rfl, rfl⟩ := h1
        rw [List.append_nil] at h2
        rw [if_neg h2]
        exact List.mem_cons_self
      | z :: s, h1, h2 =>
        simp only [List.cons_append, List.cons.injEq] at h1
        obtain ⟨rfl, h1⟩ := h1
        have hm : x ∈ takenL l (pre ++ [y]) r := ih.2 ⟨s, t, h1, by simpa using h2⟩
        split
        · exact hm
        · exact List.mem_cons_of_mem _ hm
theorem taken_sub (l : List Ed) : ∀ (r pre : List Int), (takenL l pre r).Sublist r
  | [], pre => List.Sublist.slnil
  | y :: r, pre => by
    rw [takenL]
    split
    · exact (taken_sub l r _).cons _
    · exact (taken_sub l r _).cons_cons _
theorem rest_nodup (n : Nat) : (restL n 0).Nodup := by
  have := seg_up n 0 n
  rw [seg_all (by rw [restL_len]; exact Nat.le_refl _)] at this
  exact this.imp fun h => by omega
theorem rest_mem {n : Nat} {x : Int} : x ∈ restL n 0 ↔ 0 ≤ x ∧ x < n := by
  unfold restL
  simp only [List.mem_map, List.mem_range]
  constructor
  · rintro ⟨a, h, rfl⟩
    omega
  · rintro ⟨h1, h2⟩
    exact ⟨x.toNat, by omega, by omega⟩
theorem eq_of_sorted : ∀ {a b : List Int}, a.Pairwise (· ≤ ·) → b.Pairwise (· < ·) → a.Nodup → (∀ x, x ∈ a ↔ x ∈ b) → a = b
  | [], [], _, _, _, _ => rfl
  | [], y :: b, _, _, _, h => absurd ((h y).2 List.mem_cons_self) (by simp)
  | x :: a, [], _, _, _, h => absurd ((h x).1 List.mem_cons_self) (by simp)
  | x :: a, y :: b, ha, hb, hn, h => by
    obtain ⟨a1, a2⟩ := List.pairwise_cons.1 ha
    obtain ⟨b1, b2⟩ := List.pairwise_cons.1 hb
    obtain ⟨n1, n2⟩ := List.nodup_cons.1 hn
    have hxy : x = y := by
      rcases List.mem_cons.1 ((h x).1 List.mem_cons_self) with e | e
      · exact e
      · have := b1 x e
        rcases List.mem_cons.1 ((h y).2 List.mem_cons_self) with e' | e'
        · exact e'.symm
        · have := a1 y e'
          omega
    subst hxy
    rw [eq_of_sorted a2 b2 n2 fun z => by
      constructor
      · intro hz
        rcases List.mem_cons.1 ((h z).1 (List.mem_cons_of_mem _ hz)) with e | e
        · rw [e] at hz; exact absurd hz n1
        · exact e
      · intro hz
        rcases List.mem_cons.1 ((h z).2 (List.mem_cons_of_mem _ hz)) with e | e
        · have := b1 z hz; omega
        · exact e]
/-- The program's forest is the reference's. -/
theorem least_same {l : List Ed} {n : Nat} {u : List Int} (hu : Mrg (valW l) u (restL n 0)) : sortI (takenL l [] u) = leastL l n n := by
  have hund : u.Nodup := hu.perm.nodup_iff.2 (rest_nodup n)
  have htk : (restL n 0).take n = restL n 0 := List.take_of_length_le (by rw [restL_len]; exact Nat.le_refl _)
  have hup : (restL n 0).Pairwise (· < ·) := by
    have := seg_up n 0 n
    rwa [seg_all (by rw [restL_len]; exact Nat.le_refl _)] at this
  refine eq_of_sorted (sortI_sorted _) ?_ ((sortI_perm _).nodup_iff.2 ((taken_sub l u []).nodup hund)) fun x => ?_
  · unfold leastL
    rw [htk]
    exact hup.sublist List.filter_sublist
  · rw [(sortI_perm _).mem_iff, mem_taken u [] x (by simpa using hund)]
    unfold leastL
    rw [htk, List.mem_filter]
    have hah : ∀ s t, u = s ++ x :: t → ∀ y, y ∈ s ↔ y ∈ aheadL l n x := fun s t e y => by
      unfold aheadL
      rw [List.mem_filter, decide_eq_true_iff, ← hu.perm.mem_iff]
      have hs := hu.srt
      rw [e] at hs
      obtain ⟨_, p2, p3⟩ := List.pairwise_append.1 hs
      obtain ⟨p4, _⟩ := List.pairwise_cons.1 p2
      constructor
      · intro hy
        exact ⟨by rw [e]; exact List.mem_append_left _ hy, p3 y hy x List.mem_cons_self⟩
      · rintro ⟨hy, hb⟩
        rw [e] at hy
        rcases List.mem_append.1 hy with hy | hy
        · exact hy
        · rcases List.mem_cons.1 hy with rfl | hy
          · exact (bfV.asymm (V := valW l) hb hb).elim
          · exact (bfV.asymm (V := valW l) hb (p4 y hy)).elim
    constructor
    · rintro ⟨s, t, e, hl⟩
      refine ⟨hu.perm.mem_iff.1 (by rw [e]; simp), ?_⟩
      rw [List.nil_append, linked_mem (hah s t e)] at hl
      simp [hl]
    · rintro ⟨hx, hl⟩
      have hxu := hu.perm.mem_iff.2 hx
      obtain ⟨s, t, e⟩ := List.append_of_mem hxu
      refine ⟨s, t, e, ?_⟩
      rw [List.nil_append, linked_mem (hah s t e)]
      simpa using hl
theorem good_edL {N : Nat} {l : List Ed} (hg : GoodG N l) {x : Int} (h0 : 0 ≤ x) (h : x < l.length) : ∃ a b : Nat, a < N ∧ b < N ∧ (edAt l x).a = a ∧ (edAt l x).b = b := by
  have hx : x.toNat < l.length := by omega
  have he := hg.ed (edAt l x) (by unfold edAt; rw [getD_at l _ hx]; exact List.getElem_mem _)
  obtain ⟨a0, a1, b0, b1, _, _, _⟩ := he
  exact ⟨(edAt l x).a.toNat, (edAt l x).b.toNat, by omega, by omega, by omega, by omega⟩

end Go.Proofs.Ytjkfogkpacmdlaa
