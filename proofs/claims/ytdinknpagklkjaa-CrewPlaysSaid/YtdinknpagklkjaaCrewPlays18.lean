/- Places found one by one: sums, the flow of a placing, in plain Lean. Conditions: none. -/
import Derived.Test.YtdinknpagklkjaaCrewPlays6
namespace Go.Proofs.Ytdinknpagklkjaa
open Go.RowKit

def ind (b : Bool) : Int := if b then 1 else 0
theorem ind_t : ind true = 1 := rfl
theorem ind_f : ind false = 0 := rfl
theorem ind_nn (b : Bool) : 0 ≤ ind b := by cases b <;> decide
def sm (f : Nat → Int) : Nat → Int
  | 0 => 0
  | n + 1 => sm f n + f n
theorem sm_succ (f : Nat → Int) (n : Nat) : sm f (n + 1) = sm f n + f n := rfl
theorem sm_le {f g : Nat → Int} : ∀ n, (∀ i, i < n → f i ≤ g i) → sm f n ≤ sm g n
  | 0, _ => Int.le_refl _
  | n + 1, h => by
    have := sm_le n fun i hi => h i (by omega)
    have := h n (by omega)
    unfold sm; omega
theorem sm_congr {f g : Nat → Int} (n : Nat) (h : ∀ i, i < n → f i = g i) : sm f n = sm g n := Int.le_antisymm (sm_le n fun i hi => Int.le_of_eq (h i hi)) (sm_le n fun i hi => Int.le_of_eq (h i hi).symm)
theorem sm_zero (n : Nat) : sm (fun _ => 0) n = 0 := by
  induction n with
  | zero => rfl
  | succ n ih => unfold sm; omega
theorem sm_nn {f : Nat → Int} (n : Nat) (h : ∀ i, i < n → 0 ≤ f i) : 0 ≤ sm f n := by
  have := sm_le (f := fun _ => 0) n h
  rw [sm_zero] at this
  exact this
theorem sm_add (f g : Nat → Int) : ∀ n, sm (fun i => f i + g i) n = sm f n + sm g n
  | 0 => rfl
  | n + 1 => by
    have := sm_add f g n
    unfold sm; omega
theorem sm_sub (f g : Nat → Int) : ∀ n, sm (fun i => f i - g i) n = sm f n - sm g n
  | 0 => rfl
  | n + 1 => by
    have := sm_sub f g n
    unfold sm; omega
theorem sm_swap (f : Nat → Nat → Int) (m : Nat) : ∀ n, sm (fun i => sm (f i) m) n = sm (fun j => sm (fun i => f i j) n) m
  | 0 => by
    have : sm (fun _ : Nat => (0 : Int)) m = 0 := sm_zero m
    exact this.symm
  | n + 1 => by
    have ih := sm_swap f m n
    show sm (fun i => sm (f i) m) n + sm (f n) m = sm (fun j => sm (fun i => f i j) n + f n j) m
    rw [ih, sm_add]
theorem sm_one (q : Nat) : ∀ n, sm (fun i => ind (i == q)) n = ind (decide (q < n))
  | 0 => by simp [sm, ind]
  | n + 1 => by
    have ih := sm_one q n
    unfold sm
    rw [ih]
    by_cases h : n = q
    · subst h
      have h1 : decide (n < n) = false := by simp
      have h2 : decide (n < n + 1) = true := by simp
      rw [h1, h2]
      simp [ind]
    · have h1 : (n == q) = false := by simpa using h
      have h2 : decide (q < n + 1) = decide (q < n) := by
        rw [decide_eq_decide]; omega
      rw [h1, h2]
      simp [ind]
theorem sm_only {f : Nat → Int} {q n : Nat} (hq : q < n) (h : ∀ i, i < n → i ≠ q → f i = 0) : sm f n = f q := by
  have : sm f n = sm (fun i => ind (i == q) * f q) n := sm_congr n fun i hi => by
    by_cases hiq : i = q
    · subst hiq; simp [ind]
    · have : (i == q) = false := by simpa using hiq
      rw [this, h i hi hiq]; simp [ind]
  rw [this]
  have h2 : ∀ n, sm (fun i => ind (i == q) * f q) n = sm (fun i => ind (i == q)) n * f q := fun n => by
    induction n with
    | zero => simp [sm]
    | succ n ih => unfold sm; rw [ih, Int.add_mul]
  rw [h2, sm_one, decide_eq_true hq]
  simp [ind]
/-! A placing. -/
abbrev la (l : List Int) (k : Nat) : Int := l.getD k 0
def cntA (l : List Int) (M q : Nat) : Int := sm (fun k => ind (la l k == (q : Int))) M
def sizeA (l : List Int) (M : Nat) : Int := sm (fun k => ind (la l k != -1)) M
structure Asg (ws : List Wk) (ts : List (BitVec 32)) (room : List Int) (l : List Int) : Prop where
  len : l.length = ts.length
  ok : ∀ k, k < ts.length → la l k = -1 ∨ ∃ q : Nat, q < ws.length ∧ la l k = q ∧ mayW (lw ts k) (wk ws q) = true
  cap : ∀ q, q < ws.length → cntA l ts.length q ≤ room.getD q 0
/-! The flow of a placing. -/
theorem capP_append (p : Int → Bool) : ∀ a b : List Arc, capP p (a ++ b) = capP p a + capP p b
  | [], b => by simp [capP]
  | x :: a, b => by
    rw [List.cons_append, capP, capP, capP_append p a b]; omega
theorem netO_append (j : Nat) : ∀ (a b : List Arc) (ga gb : List Int), ga.length = a.length → netO (a ++ b) (ga ++ gb) j = netO a ga j + netO b gb j
  | [], b, [], gb, _ => by simp [netO]
  | x :: a, b, g :: ga, gb, h => by
    have := netO_append j a b ga gb (by simpa using h)
    rw [List.cons_append, List.cons_append, netO, netO, this]; omega
  | [], b, g :: ga, gb, h => by simp at h
  | x :: a, b, [], gb, h => by simp at h
theorem capOk_append : ∀ {a b : List Arc} {ga gb : List Int}, CapOk a ga → CapOk b gb → CapOk (a ++ b) (ga ++ gb)
  | [], b, [], gb, _, h => h
  | x :: a, b, g :: ga, gb, h, h' => ⟨h.1, capOk_append h.2 h'⟩
  | [], b, g :: ga, gb, h, _ => h.elim
  | x :: a, b, [], gb, h, _ => h.elim
def taskG (k : Wk) (ts : List (BitVec 32)) (l : List Int) (j i : Nat) : List Int := (List.range i).flatMap fun q : Nat => if mayW (lw ts q) k = true then [ind (la l q == (j : Int))] else []
def rowG (M : Nat) (ws : List Wk) (ts : List (BitVec 32)) (l : List Int) (j : Nat) : List Int := cntA l M j :: taskG (wk ws j) ts l j M
def wkG (M : Nat) (ws : List Wk) (ts : List (BitVec 32)) (l : List Int) (j : Nat) : List Int := (List.range j).flatMap fun p => rowG M ws ts l p
def srcG (l : List Int) (i : Nat) : List Int := (List.range i).map fun q : Nat => ind (la l q != -1)
def netG (ws : List Wk) (ts : List (BitVec 32)) (l : List Int) : List Int := wkG ts.length ws ts l ws.length ++ srcG l ts.length
theorem taskG_succ (k : Wk) (ts : List (BitVec 32)) (l : List Int) (j i : Nat) : taskG k ts l j (i + 1) = taskG k ts l j i ++ if mayW (lw ts i) k = true then [ind (la l i == (j : Int))] else [] := by
  unfold taskG
  rw [List.range_succ, List.flatMap_append]
  simp
theorem wkG_succ (M : Nat) (ws : List Wk) (ts : List (BitVec 32)) (l : List Int) (j : Nat) : wkG M ws ts l (j + 1) = wkG M ws ts l j ++ rowG M ws ts l j := by
  unfold wkG
  rw [List.range_succ, List.flatMap_append]
  simp
theorem srcG_succ (l : List Int) (i : Nat) : srcG l (i + 1) = srcG l i ++ [ind (la l i != -1)] := by
  unfold srcG
  rw [List.range_succ, List.map_append]
  rfl
/-- One arc's part. -/
theorem task_cap (W : Nat) (k : Wk) (ts : List (BitVec 32)) (l : List Int) (j : Nat) : ∀ i, CapOk (taskArcs W k ts j i) (taskG k ts l j i)
  | 0 => by simp [taskArcs, taskG, CapOk]
  | i + 1 => by
    rw [taskArcs_succ, taskG_succ]
    refine capOk_append (task_cap W k ts l j i) ?_
    split
    · exact ⟨⟨ind_nn _, by simp only; cases (la l i == (j : Int)) <;> decide⟩, trivial⟩
    · trivial
theorem task_net (W : Nat) (k : Wk) (ts : List (BitVec 32)) (l : List Int) (j x : Nat) : ∀ i, netO (taskArcs W k ts j i) (taskG k ts l j i) x = sm (fun q => if mayW (lw ts q) k = true then (if W + q = x then ind (la l q == (j : Int)) else 0) - (if j = x then ind (la l q == (j : Int)) else 0) else 0) i
  | 0 => rfl
  | i + 1 => by
    rw [taskArcs_succ, taskG_succ, netO_append _ _ _ _ _ (task_cap W k ts l j i).len, task_net W k ts l j x i]
    rw [sm_succ]
    congr 1
    split
    · have e1 : ((W : Int) + i = (x : Int)) = (W + i = x) := by apply propext; omega
      have e2 : ((j : Int) = (x : Int)) = (j = x) := by apply propext; omega
      simp only [netO, e1, e2]
      omega
    · rfl
theorem task_capP (p : Int → Bool) (W : Nat) (k : Wk) (ts : List (BitVec 32)) (j : Nat) : ∀ i, capP p (taskArcs W k ts j i) = sm (fun q => if mayW (lw ts q) k = true then ind (p ((W : Int) + q) && !p j) else 0) i
  | 0 => rfl
  | i + 1 => by
    rw [taskArcs_succ, capP_append, task_capP p W k ts j i]
    rw [sm_succ]
    congr 1
    split
    · simp [capP, ind]
    · rfl
theorem src_cap (W M : Nat) (l : List Int) : ∀ i, CapOk (srcArcs W M i) (srcG l i)
  | 0 => by simp [srcArcs, srcG, CapOk]
  | i + 1 => by
    rw [srcArcs_succ, srcG_succ]
    exact capOk_append (src_cap W M l i) ⟨⟨ind_nn _, by simp only; cases (la l i != -1) <;> decide⟩, trivial⟩
theorem src_net (W M : Nat) (l : List Int) (x : Nat) : ∀ i, netO (srcArcs W M i) (srcG l i) x = sm (fun q => (if W + M = x then ind (la l q != -1) else 0) - (if W + q = x then ind (la l q != -1) else 0)) i
  | 0 => rfl
  | i + 1 => by
    rw [srcArcs_succ, srcG_succ, netO_append _ _ _ _ _ (src_cap W M l i).len, src_net W M l x i]
    rw [sm_succ]
    congr 1
    have e1 : ((W : Int) + M = (x : Int)) = (W + M = x) := by apply propext; omega
    have e2 : ((W : Int) + i = (x : Int)) = (W + i = x) := by apply propext; omega
    simp only [netO, e1, e2]
    omega
theorem src_capP (p : Int → Bool) (W M : Nat) : ∀ i, capP p (srcArcs W M i) = sm (fun q => ind (p ((W : Int) + M) && !p ((W : Int) + q))) i
  | 0 => rfl
  | i + 1 => by
    rw [srcArcs_succ, capP_append, src_capP p W M i]
    rw [sm_succ]
    congr 1
    simp [capP, ind]
theorem row_net (W M : Nat) (ws : List Wk) (ts : List (BitVec 32)) (room l : List Int) (j x : Nat) : netO (rowArcs W M ws ts room j M) (rowG M ws ts l j) x = (if j = x then cntA l M j else 0) - (if W + M + 1 = x then cntA l M j else 0) + netO (taskArcs W (wk ws j) ts j M) (taskG (wk ws j) ts l j M) x := by
  unfold rowArcs rowG
  have e1 : ((j : Int) = (x : Int)) = (j = x) := by apply propext; omega
  have e2 : ((W : Int) + M + 1 = (x : Int)) = (W + M + 1 = x) := by apply propext; omega
  simp only [netO, e1, e2]
theorem wk_cap {W M : Nat} {ws : List Wk} {ts : List (BitVec 32)} {room l : List Int} : ∀ j, (∀ q, q < j → cntA l M q ≤ room.getD q 0) → CapOk (wkArcs W M ws ts room j) (wkG M ws ts l j)
  | 0, _ => by simp [wkArcs, wkG, CapOk]
  | j + 1, h => by
    rw [wkArcs_succ, wkG_succ]
    exact capOk_append (wk_cap j fun q hq => h q (by omega)) ⟨⟨sm_nn _ fun i _ => ind_nn _, h j (by omega)⟩, task_cap W (wk ws j) ts l j M⟩
theorem wk_net {W M : Nat} {ws : List Wk} {ts : List (BitVec 32)} {room l : List Int} (x : Nat) : ∀ j, (∀ q, q < j → cntA l M q ≤ room.getD q 0) → netO (wkArcs W M ws ts room j) (wkG M ws ts l j) x = sm (fun q => netO (rowArcs W M ws ts room q M) (rowG M ws ts l q) x) j
  | 0, _ => rfl
  | j + 1, h => by
    have h' : ∀ q, q < j → cntA l M q ≤ room.getD q 0 := fun q hq => h q (by omega)
    rw [wkArcs_succ, wkG_succ, netO_append _ _ _ _ _ (wk_cap j h').len, wk_net x j h']
    rfl
theorem wk_capP (p : Int → Bool) {W M : Nat} {ws : List Wk} {ts : List (BitVec 32)} {room : List Int} : ∀ j, capP p (wkArcs W M ws ts room j) = sm (fun q => (if p q && !p ((W : Int) + M + 1) then room.getD q 0 else 0) + sm (fun i => if mayW (lw ts i) (wk ws q) = true then ind (p ((W : Int) + i) && !p q) else 0) M) j
  | 0 => rfl
  | j + 1 => by
    rw [wkArcs_succ, capP_append, wk_capP p j]
    show _ + capP p (rowArcs W M ws ts room j M) = _ + _
    congr 1
    unfold rowArcs
    rw [capP, task_capP]
theorem asg_flow {ws : List Wk} {ts : List (BitVec 32)} {room l : List Int} (h : Asg ws ts room l) : FlowV (ws.length + ts.length + 2) (netOf ws ts room) (netG ws ts l) (ws.length + ts.length) (ws.length + ts.length + 1) (sizeA l ts.length) := by
  have hnet : ∀ x : Nat, netO (netOf ws ts room) (netG ws ts l) (x : Int) = sm (fun q => netO (rowArcs ws.length ts.length ws ts room q ts.length) (rowG ts.length ws ts l q) (x : Int)) ws.length + netO (srcArcs ws.length ts.length ts.length) (srcG l ts.length) (x : Int) := fun x => by
    unfold netOf netG
    rw [netO_append _ _ _ _ _ (wk_cap _ h.cap).len, wk_net x _ h.cap]
  have hmay : ∀ q k, q < ws.length → k < ts.length → (if mayW (lw ts k) (wk ws q) = true then ind (la l k == (q : Int)) else 0) = ind (la l k == (q : Int)) := fun q k hq hk => by
    by_cases hm : mayW (lw ts k) (wk ws q) = true
    · rw [if_pos hm]
    · rw [if_neg hm]
      have : (la l k == (q : Int)) = false := by
        rw [beq_eq_false_iff_ne]
        intro e
        rcases h.ok k hk with h1 | ⟨q', h1, h2, h3⟩
        · rw [h1] at e; omega
        · have : q' = q := by rw [h2] at e; omega
          rw [this] at h3
          exact hm h3
      rw [this]; rfl
  have hsum : ∀ k, k < ts.length → sm (fun q => ind (la l k == (q : Int))) ws.length = ind (la l k != -1) := fun k hk => by
    rcases h.ok k hk with h1 | ⟨q', h1, h2, _⟩
    · rw [h1]
      have : sm (fun q : Nat => ind ((-1 : Int) == (q : Int))) ws.length = sm (fun _ => 0) ws.length := sm_congr _ fun q _ => by
        have : ((-1 : Int) == (q : Int)) = false := by rw [beq_eq_false_iff_ne]; omega
        rw [this]; rfl
      rw [this, sm_zero]
      rfl
    · rw [sm_only (q := q') h1 fun q _ hne => by
        have : (la l k == (q : Int)) = false := by rw [beq_eq_false_iff_ne, h2]; omega
        rw [this]; rfl]
      rw [h2]
      have e1 : (((q' : Int)) == (q' : Int)) = true := by simp
      have e2 : (((q' : Int)) != -1) = true := by simp
      rw [e1, e2]
  refine ⟨capOk_append (wk_cap _ h.cap) (src_cap _ _ _ _), fun x hx hs ht => ?_, ?_⟩
  · rw [hnet, src_net]
    by_cases hxW : x < ws.length
    · have h1 : sm (fun q => (if ws.length + ts.length = x then ind (la l q != -1) else 0) - (if ws.length + q = x then ind (la l q != -1) else 0)) ts.length = 0 := by
        rw [sm_congr (g := fun _ => 0) _ fun q hq => by rw [if_neg (by omega), if_neg (by omega)]; rfl]
        exact sm_zero _
      rw [h1, Int.add_zero, sm_only (q := x) hxW fun q hq hne => ?_]
      · rw [row_net, if_pos rfl, if_neg (by omega), task_net]
        have : sm (fun q => if mayW (lw ts q) (wk ws x) = true then (if ws.length + q = x then ind (la l q == (x : Int)) else 0) - (if x = x then ind (la l q == (x : Int)) else 0) else 0) ts.length = sm (fun q => 0 - ind (la l q == (x : Int))) ts.length := sm_congr _ fun q hq => by
          have := hmay x q hxW hq
          split
          · rw [if_neg (by omega), if_pos rfl]
          · rename_i hm; rw [if_neg hm] at this; omega
        rw [this, sm_sub, sm_zero]
        unfold cntA
        omega
      · rw [row_net, if_neg hne, if_neg (by omega), task_net]
        rw [sm_congr (g := fun _ => 0) _ fun i hi => by split; (rw [if_neg (c := ws.length + i = _) (by omega)]; first | rfl | (rw [if_neg (c := q = _) hne]; rfl)); rfl]
        rw [sm_zero]; rfl
    · obtain ⟨k, rfl⟩ : ∃ k, x = ws.length + k := ⟨x - ws.length, by omega⟩
      have hk : k < ts.length := by omega
      have h1 : sm (fun q => (if ws.length + ts.length = ws.length + k then ind (la l q != -1) else 0) - (if ws.length + q = ws.length + k then ind (la l q != -1) else 0)) ts.length = 0 - ind (la l k != -1) := by
        rw [sm_only (q := k) hk fun q hq hne => by rw [if_neg (by omega), if_neg (by omega)]; rfl]
        rw [if_neg (by omega), if_pos rfl]
      have h2 : sm (fun q => netO (rowArcs ws.length ts.length ws ts room q ts.length) (rowG ts.length ws ts l q) ((ws.length + k : Nat) : Int)) ws.length = sm (fun q => ind (la l k == (q : Int))) ws.length := sm_congr _ fun q hq => by
        rw [row_net, if_neg (by omega), if_neg (by omega), task_net, sm_only (q := k) hk fun i hi hne => by split; (rw [if_neg (c := ws.length + i = _) (by omega), if_neg (c := q = _) (by omega)]; rfl); rfl]
        have := hmay q k hq hk
        split
        · rename_i hm
          rw [if_pos hm] at this
          rw [if_pos rfl, if_neg (by omega)]
          omega
        · rename_i hm; rw [if_neg hm] at this; omega
      rw [h1, h2, hsum k hk]
      omega
  · rw [hnet, src_net]
    have h1 : sm (fun q => (if ws.length + ts.length = ws.length + ts.length then ind (la l q != -1) else 0) - (if ws.length + q = ws.length + ts.length then ind (la l q != -1) else 0)) ts.length = sizeA l ts.length := by
      unfold sizeA
      exact sm_congr _ fun q hq => by rw [if_pos rfl, if_neg (by omega)]; omega
    have h2 : sm (fun q => netO (rowArcs ws.length ts.length ws ts room q ts.length) (rowG ts.length ws ts l q) ((ws.length + ts.length : Nat) : Int)) ws.length = 0 := by
      rw [sm_congr (g := fun _ => 0) _ fun q hq => by
        rw [row_net, if_neg (by omega), if_neg (by omega), task_net, sm_congr (g := fun _ => 0) _ fun i hi => by split; (rw [if_neg (c := ws.length + i = _) (by omega), if_neg (c := q = _) (by omega)]; rfl); rfl]
        rw [sm_zero]; rfl]
      exact sm_zero _
    rw [h1, h2]
    omega
/-- What bounds all placings: a set of workers that are full, with all that is with them, or left over. -/
structure ClS (ws : List Wk) (ts : List (BitVec 32)) (room : List Int) (l : List Int) (X : Nat → Bool) : Prop where
  full : ∀ q, q < ws.length → X q = true → room.getD q 0 ≤ cntA l ts.length q
  stay : ∀ k q, k < ts.length → q < ws.length → la l k = q → X q = true → ∀ q', q' < ws.length → mayW (lw ts k) (wk ws q') = true → X q' = true
theorem asg_most {ws : List Wk} {ts : List (BitVec 32)} {room l : List Int} (h : Asg ws ts room l) {X : Nat → Bool} (hX : ClS ws ts room l X) (hleft : ∀ k, k < ts.length → la l k = -1 → ∀ q', q' < ws.length → mayW (lw ts k) (wk ws q') = true → X q' = true) :
    IsMx (ws.length + ts.length + 2) (netOf ws ts room) (ws.length + ts.length) (ws.length + ts.length + 1) (sizeA l ts.length) := by
  have hf := asg_flow h
  let p : Int → Bool := fun x => if x < (ws.length : Int) then X x.toNat else if x < (ws.length : Int) + ts.length then (la l (x.toNat - ws.length) == -1) || X (la l (x.toNat - ws.length)).toNat else x == (ws.length : Int) + ts.length
  have pw : ∀ q : Nat, q < ws.length → p q = X q := fun q hq => by
    show (if (q : Int) < (ws.length : Int) then X (q : Int).toNat else _) = _
    rw [if_pos (by omega)]
    rfl
  have pt : ∀ k : Nat, k < ts.length → p ((ws.length : Int) + k) = ((la l k == -1) || X (la l k).toNat) := fun k hk => by
    show (if (ws.length : Int) + k < (ws.length : Int) then _ else if (ws.length : Int) + k < (ws.length : Int) + ts.length then (la l (((ws.length : Int) + k).toNat - ws.length) == -1) || X (la l (((ws.length : Int) + k).toNat - ws.length)).toNat else _) = _
    rw [if_neg (by omega), if_pos (by omega), show ((ws.length : Int) + k).toNat - ws.length = k by omega]
  have ps : p ((ws.length : Int) + ts.length) = true := by
    show (if (ws.length : Int) + ts.length < (ws.length : Int) then _ else if (ws.length : Int) + ts.length < (ws.length : Int) + ts.length then _ else ((ws.length : Int) + ts.length == (ws.length : Int) + ts.length)) = _
    rw [if_neg (by omega), if_neg (by omega)]
    simp
  have pe : p ((ws.length : Int) + ts.length + 1) = false := by
    show (if (ws.length : Int) + ts.length + 1 < (ws.length : Int) then _ else if (ws.length : Int) + ts.length + 1 < (ws.length : Int) + ts.length then _ else ((ws.length : Int) + ts.length + 1 == (ws.length : Int) + ts.length)) = _
    rw [if_neg (by omega), if_neg (by omega), beq_eq_false_iff_ne]
    omega
  have hin := netOf_in ws ts room
  have hweak := hf.weak hin (by omega) (p := p) (by have := ps; rwa [← Int.natCast_add] at this) (by have := pe; rw [← Int.natCast_add] at this; exact this)
  have hcap : capP p (netOf ws ts room) ≤ sizeA l ts.length := by
    unfold netOf
    rw [capP_append, wk_capP, src_capP, ps, pe]
    have h1 : sm (fun q => (if p q && !false then room.getD q 0 else 0) + sm (fun i => if mayW (lw ts i) (wk ws q) = true then ind (p ((ws.length : Int) + i) && !p q) else 0) ts.length) ws.length ≤ sm (fun q => sm (fun k => ind (X q && (la l k == (q : Int)))) ts.length) ws.length := sm_le _ fun q hq => by
      have hz : sm (fun i => if mayW (lw ts i) (wk ws q) = true then ind (p ((ws.length : Int) + i) && !p q) else 0) ts.length = 0 := by
        rw [sm_congr (g := fun _ => 0) _ fun i hi => ?_]
        · exact sm_zero _
        · split
          · rename_i hm
            rw [pt i hi, pw q hq]
            have : (((la l i == -1) || X (la l i).toNat) && !X q) = false := by
              cases hXq : X q with
              | true => simp
              | false =>
                have h1 : (la l i == -1) = false := by
                  rw [beq_eq_false_iff_ne]
                  intro e
                  have := hleft i hi e q hq hm
                  rw [hXq] at this; cases this
                have h2 : X (la l i).toNat = false := by
                  rcases h.ok i hi with e | ⟨q', h3, h4, _⟩
                  · rw [e] at h1; cases h1
                  · rw [h4, Int.toNat_natCast]
                    cases hq' : X q' with
                    | false => rfl
                    | true =>
                      have := hX.stay i q' hi h3 h4 hq' q hq hm
                      rw [hXq] at this; cases this
                rw [h1, h2]; rfl
            rw [this]; rfl
          · rfl
      rw [hz, pw q hq]
      cases hXq : X q with
      | true =>
        have := hX.full q hq hXq
        unfold cntA at this
        simp only [Bool.not_false, Bool.and_true, if_true, Bool.true_and]
        omega
      | false =>
        simp only [Bool.false_and]
        have hz2 : sm (fun _ => ind false) ts.length = 0 := sm_zero _
        rw [hz2]
        simp
    have h2 := sm_swap (fun k q => ind (X q && (la l k == (q : Int)))) ws.length ts.length
    rw [← h2] at h1
    refine Int.le_trans (Int.add_le_add_right h1 _) ?_
    rw [← sm_add]
    unfold sizeA
    refine sm_le _ fun k hk => ?_
    rw [pt k hk, Bool.true_and]
    rcases h.ok k hk with e | ⟨q', h3, h4, _⟩
    · rw [e]
      have : sm (fun q : Nat => ind (X q && ((-1 : Int) == (q : Int)))) ws.length = 0 := by
        rw [sm_congr (g := fun _ => 0) _ fun q _ => ?_]
        · exact sm_zero _
        · have : ((-1 : Int) == (q : Int)) = false := by rw [beq_eq_false_iff_ne]; omega
          rw [this, Bool.and_false]; rfl
      rw [this]
      have e1 : ((-1 : Int) == -1) = true := rfl
      have e2 : ((-1 : Int) != -1) = false := rfl
      rw [e1, e2, Bool.true_or]
      decide
    · rw [sm_only (q := q') h3 fun q _ hne => by
        have : (la l k == (q : Int)) = false := by rw [beq_eq_false_iff_ne, h4]; omega
        rw [this, Bool.and_false]; rfl]
      rw [h4, Int.toNat_natCast]
      have e1 : (((q' : Int)) == (q' : Int)) = true := by simp
      have e2 : (((q' : Int)) != -1) = true := by simp
      have e3 : (((q' : Int)) == -1) = false := by rw [beq_eq_false_iff_ne]; omega
      rw [e1, e2, e3]
      cases X q' <;> decide
  exact ⟨⟨_, hf⟩, p, by have := ps; rwa [← Int.natCast_add] at this, by have := pe; rw [← Int.natCast_add] at this; exact this, Int.le_antisymm hcap hweak⟩
theorem asg_le {ws : List Wk} {ts : List (BitVec 32)} {room l : List Int} (h : Asg ws ts room l) {v : Int} (hv : IsMx (ws.length + ts.length + 2) (netOf ws ts room) (ws.length + ts.length) (ws.length + ts.length + 1) v) : sizeA l ts.length ≤ v := by
  obtain ⟨_, p, p1, p2, p3⟩ := hv
  rw [← p3]
  exact (asg_flow h).weak (netOf_in ws ts room) (by omega) p1 p2
theorem manyV_of {ws : List Wk} {ts : List (BitVec 32)} {room : List Int} {v : Int} (hv : IsMx (ws.length + ts.length + 2) (netOf ws ts room) (ws.length + ts.length) (ws.length + ts.length + 1) v) : manyV ws ts room = v := maxV_is (netOf_in ws ts room) (by omega) hv
end Go.Proofs.Ytdinknpagklkjaa

/- Places found one by one: the search, in plain Lean. Conditions: none. -/
namespace Go.Proofs.Ytdinknpagklkjaa
open Go.RowKit

abbrev SRes := Bool × List Int × List Bool
abbrev qa (asked : List Bool) (q : Nat) : Bool := asked.getD q false
def seatK (rec : Nat → List Bool → SRes) (l : List Int) (i j : Nat) : List Nat → List Bool → SRes
  | [], asked => (false, l, asked)
  | k :: ks, asked =>
    if la l k = (j : Int) then (if (rec k asked).1 = true then (true, (rec k asked).2.1.set i j, (rec k asked).2.2) else seatK rec l i j ks (rec k asked).2.2)
    else seatK rec l i j ks asked
def seatJ (ws : List Wk) (t : BitVec 32) (room : List Int) (M : Nat) (rec : Nat → List Bool → SRes) (l : List Int) (i : Nat) : List Nat → List Bool → SRes
  | [], asked => (false, l, asked)
  | j :: js, asked =>
    if qa asked j = true ∨ mayW t (wk ws j) = false then seatJ ws t room M rec l i js asked
    else if cntA l M j < room.getD j 0 then (true, l.set i j, asked.set j true)
    else if (seatK rec l i j (List.range M) (asked.set j true)).1 = true then seatK rec l i j (List.range M) (asked.set j true)
    else seatJ ws t room M rec l i js (seatK rec l i j (List.range M) (asked.set j true)).2.2
def seatF (ws : List Wk) (ts : List (BitVec 32)) (room : List Int) (l : List Int) : Nat → Nat → List Bool → SRes
  | 0, _, asked => (false, l, asked)
  | f + 1, i, asked => seatJ ws (lw ts i) room ts.length (seatF ws ts room l f) l i (List.range ws.length) asked

theorem qa_set {asked : List Bool} {j q : Nat} (hj : j < asked.length) : qa (asked.set j true) q = if j = q then true else qa asked q := by
  unfold qa
  rw [List.getD_eq_getElem?_getD, List.getElem?_set]
  by_cases h : j = q
  · subst h; rw [if_pos rfl, if_pos rfl, if_pos hj]; rfl
  · rw [if_neg h, if_neg h, ← List.getD_eq_getElem?_getD]
theorem la_set {l : List Int} {i : Nat} {x : Int} {k : Nat} (hi : i < l.length) : la (l.set i x) k = if i = k then x else la l k := by
  unfold la
  rw [List.getD_eq_getElem?_getD, List.getElem?_set]
  by_cases h : i = k
  · subst h; rw [if_pos rfl, if_pos rfl, if_pos hi]; rfl
  · rw [if_neg h, if_neg h, ← List.getD_eq_getElem?_getD]
def un (W : Nat) (asked : List Bool) : Int := sm (fun q => ind (!qa asked q)) W
theorem un_mono {W : Nat} {a b : List Bool} (h : ∀ q, qa a q = true → qa b q = true) : un W b ≤ un W a := sm_le _ fun q _ => by
  cases ha : qa a q with
  | true => rw [h q ha]; exact Int.le_refl _
  | false => cases qa b q <;> decide
theorem un_set {W j : Nat} {a : List Bool} (hj : j < W) (hl : a.length = W) (h : qa a j = false) : un W (a.set j true) + 1 = un W a := by
  have h1 : un W a = sm (fun q => ind (!qa (a.set j true) q) + ind (q == j)) W := sm_congr _ fun q _ => by
    rw [qa_set (by omega)]
    by_cases e : j = q
    · subst e; rw [if_pos rfl, h]; simp [ind]
    · have : (q == j) = false := by rw [beq_eq_false_iff_ne]; omega
      rw [if_neg e, this]; simp [ind]
  rw [h1, sm_add, sm_one, decide_eq_true hj]
  rfl
theorem un_nn (W : Nat) (a : List Bool) : 0 ≤ un W a := sm_nn _ fun _ _ => ind_nn _

section
variable (ws : List Wk) (ts : List (BitVec 32)) (room : List Int) (l : List Int)
/-- A search that finds nothing. -/
structure NoS (i : Nat) (js : Nat → Prop) (a b : List Bool) : Prop where
  len : b.length = a.length
  mono : ∀ q, qa a q = true → qa b q = true
  all : ∀ q, js q → q < ws.length → mayW (lw ts i) (wk ws q) = true → qa b q = true
  full : ∀ q, q < ws.length → qa b q = true → qa a q = false → room.getD q 0 ≤ cntA l ts.length q ∧ ∀ k, k < ts.length → la l k = (q : Int) → ∀ q', q' < ws.length → mayW (lw ts k) (wk ws q') = true → qa b q' = true
/-- A search that finds something. -/
structure Yes (i : Nat) (a : List Bool) (l' : List Int) : Prop where
  len : l'.length = l.length
  new : ∃ q, q < ws.length ∧ la l' i = (q : Int) ∧ qa a q = false ∧ mayW (lw ts i) (wk ws q) = true
  oth : ∀ k, k < ts.length → k ≠ i → la l' k = la l k ∨ ∃ q q' : Nat, q < ws.length ∧ q' < ws.length ∧ la l k = q ∧ qa a q = false ∧ la l' k = q' ∧ qa a q' = false ∧ mayW (lw ts k) (wk ws q') = true
  cap : ∀ q, q < ws.length → cntA l' ts.length q ≤ room.getD q 0
  free : ∀ X, ClS ws ts room l X → (∀ k q, k < ts.length → q < ws.length → X q = true → k ≠ i → (la l' k = (q : Int) ↔ la l k = (q : Int))) ∧ ∀ q, q < ws.length → la l' i = (q : Int) → X q = false
end
/-- What a search wants of its place. -/
def PreS (l : List Int) (i : Nat) (a : List Bool) : Prop := la l i = -1 ∨ ∃ q : Nat, la l i = q ∧ qa a q = true
theorem cnt_set {l : List Int} {M i j q : Nat} (hl : l.length = M) (hi : i < M) : cntA (l.set i j) M q = cntA l M q - ind (la l i == (q : Int)) + ind ((j : Int) == (q : Int)) := by
  have h1 : cntA (l.set i j) M q = sm (fun k => (ind (la l k == (q : Int)) - ind (k == i) * ind (la l i == (q : Int))) + ind (k == i) * ind ((j : Int) == (q : Int))) M := sm_congr _ fun k _ => by
    rw [la_set (by omega)]
    by_cases h : i = k
    · subst h
      rw [if_pos rfl]
      simp [ind]
    · have : (k == i) = false := by rw [beq_eq_false_iff_ne]; omega
      rw [if_neg h, this]
      simp [ind]
  have h2 : ∀ (c : Int), sm (fun k => ind (k == i) * c) M = c := fun c => by
    rw [sm_only (q := i) hi fun k _ hne => by
      have : (k == i) = false := by simpa using hne
      rw [this]; simp [ind]]
    simp [ind]
  rw [h1, sm_add, sm_sub, h2, h2]
  rfl
section
variable {ws : List Wk} {ts : List (BitVec 32)} {room : List Int} {l : List Int}
theorem NoS.trans {i : Nat} {js : Nat → Prop} {a b c : List Bool} {i' : Nat} {js' : Nat → Prop} (h : NoS ws ts room l i js a b) (h' : NoS ws ts room l i' js' b c) {i2 : Nat} {js2 : Nat → Prop} (hall : ∀ q, js2 q → q < ws.length → mayW (lw ts i2) (wk ws q) = true → qa c q = true) : NoS ws ts room l i2 js2 a c := by
  refine ⟨by rw [h'.len, h.len], fun q hq => h'.mono q (h.mono q hq), hall, fun q hq hc ha => ?_⟩
  cases hb : qa b q with
  | true =>
    obtain ⟨h1, h2⟩ := h.full q hq hb ha
    exact ⟨h1, fun k hk hlk q' hq' hm => h'.mono q' (h2 k hk hlk q' hq' hm)⟩
  | false => exact h'.full q hq hc hb
/-- What the search answers, so many workers being unasked. -/
def SpecF (ws : List Wk) (ts : List (BitVec 32)) (room l : List Int) (rec : Nat → List Bool → SRes) (u : Int) : Prop :=
  ∀ i a, i < ts.length → a.length = ws.length → PreS l i a → un ws.length a < u → ((rec i a).1 = true → Yes ws ts room l i a (rec i a).2.1) ∧ ((rec i a).1 = false → (rec i a).2.1 = l ∧ NoS ws ts room l i (fun _ => True) a (rec i a).2.2)
theorem seatK_spec (hlen : l.length = ts.length) (hcap : ∀ q, q < ws.length → cntA l ts.length q ≤ room.getD q 0) {rec : Nat → List Bool → SRes} {u : Int} (hrec : SpecF ws ts room l rec u) {i j : Nat} (hi : i < ts.length) (hj : j < ws.length) (hmay : mayW (lw ts i) (wk ws j) = true) {a0 : List Bool} (hpre : PreS l i a0) (ha0j : qa a0 j = false) (ha0 : ∀ q, q ≠ j → qa (a0.set j true) q = qa a0 q) :
    ∀ (ks : List Nat) (a : List Bool), (∀ k ∈ ks, k < ts.length) → a.length = ws.length → (∀ q, qa a0 q = true → qa a q = true) → qa a j = true → un ws.length a < u →
      ((seatK rec l i j ks a).1 = true → Yes ws ts room l i a0 (seatK rec l i j ks a).2.1) ∧ ((seatK rec l i j ks a).1 = false → (seatK rec l i j ks a).2.1 = l ∧ NoS ws ts room l i (fun _ => False) a (seatK rec l i j ks a).2.2 ∧ ∀ k ∈ ks, la l k = (j : Int) → ∀ q', q' < ws.length → mayW (lw ts k) (wk ws q') = true → qa (seatK rec l i j ks a).2.2 q' = true)
  | [], a, _, _, _, _, _ => ⟨fun h => (by cases h), fun _ => ⟨rfl, ⟨rfl, fun _ h => h, fun _ h => h.elim, fun q _ h1 h2 => by
      have h1 : qa a q = true := h1
      rw [h1] at h2; cases h2⟩, fun k hk => by cases hk⟩⟩
  | k :: ks, a, hks, hal, hmono, haj, hun => by
    have hk := hks k List.mem_cons_self
    have hks' := fun x hx => hks x (List.mem_cons_of_mem _ hx)
    by_cases hlk : la l k = (j : Int)
    · obtain ⟨hy, hn⟩ := hrec k a hk hal (.inr ⟨j, hlk, haj⟩) hun
      by_cases hr : (rec k a).1 = true
      · have e : seatK rec l i j (k :: ks) a = (true, (rec k a).2.1.set i j, (rec k a).2.2) := by
          rw [seatK, if_pos hlk, if_pos hr]
        rw [e]
        refine ⟨fun _ => ?_, fun h => by cases h⟩
        have y := hy hr
        obtain ⟨l1, hl1⟩ : ∃ l1, l1 = (rec k a).2.1 := ⟨_, rfl⟩
        rw [← hl1] at y
        show Yes ws ts room l i a0 ((rec k a).2.1.set i j)
        rw [← hl1]
        have hki : k ≠ i := by
          rintro rfl
          rcases hpre with h | ⟨q, h1, h2⟩
          · rw [h] at hlk; omega
          · have : q = j := by rw [h1] at hlk; omega
            rw [this, ha0j] at h2; cases h2
        have hil1 : i < l1.length := by rw [y.len, hlen]; exact hi
        have hset : ∀ x, la (l1.set i j) x = if i = x then (j : Int) else la l1 x := fun x => la_set hil1
        have hback : ∀ q, qa a q = false → qa a0 q = false := fun q hq => by
          cases h : qa a0 q with
          | false => rfl
          | true => rw [hmono q h] at hq; cases hq
        have hli : la l1 i = la l i := by
          rcases y.oth i hi (fun e => hki e.symm) with h | ⟨q, q', hq, _, h1, h2, _⟩
          · exact h
          · exfalso
            rcases hpre with h | ⟨q0, h3, h4⟩
            · rw [h] at h1; omega
            · have : q0 = q := by rw [h3] at h1; omega
              rw [this] at h4
              rw [hmono q h4] at h2; cases h2
        obtain ⟨qn, hqn, hln, haqn, hmn⟩ := y.new
        refine ⟨by rw [List.length_set]; exact y.len, ⟨j, hj, by rw [hset, if_pos rfl], ha0j, hmay⟩, fun x hx hxi => ?_, fun q hq => ?_, fun X hX => ?_⟩
        · rw [hset, if_neg (fun e => hxi e.symm)]
          by_cases hxk : x = k
          · subst hxk
            exact .inr ⟨j, qn, hj, hqn, hlk, ha0j, hln, hback _ haqn, hmn⟩
          · rcases y.oth x hx hxk with h | ⟨q, q', h1, h2, h3, h4, h5, h6, h7⟩
            · exact .inl h
            · exact .inr ⟨q, q', h1, h2, h3, hback _ h4, h5, hback _ h6, h7⟩
        · rw [cnt_set (by rw [y.len, hlen]) hi, hli]
          by_cases hqj : q = j
          · subst hqj
            have h1 : (la l i == (q : Int)) = false := by
              rw [beq_eq_false_iff_ne]
              rcases hpre with h | ⟨q0, h3, h4⟩
              · rw [h]; omega
              · rw [h3]
                intro e
                have : q0 = q := by omega
                rw [this, ha0j] at h4; cases h4
            have h2 : cntA l1 ts.length q ≤ cntA l ts.length q - 1 := by
              have : sm (fun x => ind (la l1 x == (q : Int))) ts.length ≤ sm (fun x => ind (la l x == (q : Int)) - ind (x == k)) ts.length := sm_le _ fun x hx => by
                by_cases hxk : x = k
                · subst hxk
                  have e1 : (la l1 x == (q : Int)) = false := by
                    rw [beq_eq_false_iff_ne, hln]
                    intro e
                    have : qn = q := by omega
                    rw [this, haj] at haqn; cases haqn
                  rw [e1, hlk]
                  simp [ind]
                · have e2 : (x == k) = false := by simpa using hxk
                  rw [e2]
                  rcases y.oth x hx hxk with h | ⟨q1, q2, _, _, h3, h4, h5, h6, _⟩
                  · rw [h]; simp [ind]
                  · have e3 : (la l1 x == (q : Int)) = false := by
                      rw [beq_eq_false_iff_ne, h5]
                      intro e
                      have : q2 = q := by omega
                      rw [this, haj] at h6; cases h6
                    rw [e3]
                    have := ind_nn (la l x == (q : Int))
                    simp [ind] at this ⊢
                    omega
              rw [sm_sub, sm_one, decide_eq_true hk] at this
              exact this
            have h3 := hcap q hq
            have e5 : ((q : Int) == (q : Int)) = true := by simp
            rw [h1, e5, ind_t, ind_f]
            omega
          · have h1 : ((j : Int) == (q : Int)) = false := by rw [beq_eq_false_iff_ne]; omega
            have h2 := y.cap q hq
            have h3 := ind_nn (la l i == (q : Int))
            rw [h1, ind_f]
            omega
        · obtain ⟨f1, f2⟩ := y.free X hX
          have hXj : X j = false := by
            cases hXj : X j with
            | false => rfl
            | true =>
              have := hX.stay k j hk hj hlk hXj qn hqn hmn
              rw [f2 qn hqn hln] at this; cases this
          refine ⟨fun x q hx hq hXq hxi => ?_, fun q hq h => ?_⟩
          · rw [hset, if_neg (fun e => hxi e.symm)]
            by_cases hxk : x = k
            · subst hxk
              constructor
              · intro h
                have := f2 q hq h
                rw [hXq] at this; cases this
              · intro h
                have : j = q := by rw [hlk] at h; omega
                rw [this, hXq] at hXj; cases hXj
            · exact f1 x q hx hq hXq hxk
          · rw [hset, if_pos rfl] at h
            have : j = q := by omega
            rw [← this]; exact hXj
      · have hr' : (rec k a).1 = false := by simpa using hr
        have e : seatK rec l i j (k :: ks) a = seatK rec l i j ks (rec k a).2.2 := by
          rw [seatK, if_pos hlk, if_neg hr]
        rw [e]
        obtain ⟨_, no⟩ := hn hr'
        obtain ⟨iy, ino⟩ := seatK_spec hlen hcap hrec hi hj hmay hpre ha0j ha0 ks (rec k a).2.2 hks' (by rw [no.len, hal]) (fun q hq => no.mono q (hmono q hq)) (no.mono j haj) (by have := un_mono (W := ws.length) no.mono; omega)
        refine ⟨iy, fun h => ?_⟩
        obtain ⟨h1, h2, h3⟩ := ino h
        refine ⟨h1, no.trans h2 (fun q h => h.elim), fun k' hk' hl' => ?_⟩
        rcases List.mem_cons.1 hk' with rfl | hk'
        · exact fun q' hq' hm => h2.mono q' (no.all q' trivial hq' hm)
        · exact h3 k' hk' hl'
    · have e : seatK rec l i j (k :: ks) a = seatK rec l i j ks a := by
        rw [seatK, if_neg hlk]
      rw [e]
      obtain ⟨iy, ino⟩ := seatK_spec hlen hcap hrec hi hj hmay hpre ha0j ha0 ks a hks' hal hmono haj hun
      refine ⟨iy, fun h => ?_⟩
      obtain ⟨h1, h2, h3⟩ := ino h
      refine ⟨h1, h2, fun k' hk' hl' => ?_⟩
      rcases List.mem_cons.1 hk' with rfl | hk'
      · exact absurd hl' hlk
      · exact h3 k' hk' hl'
theorem seatJ_spec (hlen : l.length = ts.length) (hcap : ∀ q, q < ws.length → cntA l ts.length q ≤ room.getD q 0) {rec : Nat → List Bool → SRes} {u : Int} (hrec : SpecF ws ts room l rec u) {i : Nat} (hi : i < ts.length) {a0 : List Bool} (hpre0 : PreS l i a0) :
    ∀ (js : List Nat) (a : List Bool), (∀ j ∈ js, j < ws.length) → a.length = ws.length → (∀ q, qa a0 q = true → qa a q = true) → un ws.length a < u + 1 →
      ((seatJ ws (lw ts i) room ts.length rec l i js a).1 = true → Yes ws ts room l i a0 (seatJ ws (lw ts i) room ts.length rec l i js a).2.1) ∧ ((seatJ ws (lw ts i) room ts.length rec l i js a).1 = false → (seatJ ws (lw ts i) room ts.length rec l i js a).2.1 = l ∧ NoS ws ts room l i (fun q => q ∈ js) a (seatJ ws (lw ts i) room ts.length rec l i js a).2.2)
  | [], a, _, _, _, _ => ⟨fun h => (by cases h), fun _ => ⟨rfl, ⟨rfl, fun _ h => h, fun _ h => (by cases h), fun q _ h1 h2 => by
      have h1 : qa a q = true := h1
      rw [h1] at h2; cases h2⟩⟩⟩
  | j :: js, a, hjs, hal, hmono, hun => by
    have hj := hjs j List.mem_cons_self
    have hjs' := fun x hx => hjs x (List.mem_cons_of_mem _ hx)
    by_cases hskip : qa a j = true ∨ mayW (lw ts i) (wk ws j) = false
    · have e : seatJ ws (lw ts i) room ts.length rec l i (j :: js) a = seatJ ws (lw ts i) room ts.length rec l i js a := by
        rw [seatJ, if_pos hskip]
      rw [e]
      obtain ⟨iy, ino⟩ := seatJ_spec hlen hcap hrec hi hpre0 js a hjs' hal hmono hun
      refine ⟨iy, fun h => ?_⟩
      obtain ⟨h1, h2⟩ := ino h
      refine ⟨h1, h2.len, h2.mono, fun q hq hql hm => ?_, h2.full⟩
      rcases List.mem_cons.1 hq with rfl | hq
      · rcases hskip with h | h
        · exact h2.mono q h
        · rw [h] at hm; cases hm
      · exact h2.all q hq hql hm
    · have haj : qa a j = false := by
        cases h : qa a j with
        | false => rfl
        | true => exact absurd (.inl h) hskip
      have hmay : mayW (lw ts i) (wk ws j) = true := by
        cases h : mayW (lw ts i) (wk ws j) with
        | true => rfl
        | false => exact absurd (.inr h) hskip
      have ha0j : qa a0 j = false := by
        cases h : qa a0 j with
        | false => rfl
        | true => rw [hmono j h] at haj; cases haj
      have hback : ∀ q, qa a q = false → qa a0 q = false := fun q hq => by
        cases h : qa a0 q with
        | false => rfl
        | true => rw [hmono q h] at hq; cases hq
      have hseta : ∀ q, qa (a.set j true) q = if j = q then true else qa a q := fun q => qa_set (by omega)
      by_cases hroom : cntA l ts.length j < room.getD j 0
      · have e : seatJ ws (lw ts i) room ts.length rec l i (j :: js) a = (true, l.set i j, a.set j true) := by
          rw [seatJ, if_neg hskip, if_pos hroom]
        rw [e]
        refine ⟨fun _ => ?_, fun h => by cases h⟩
        have hil : i < l.length := by rw [hlen]; exact hi
        have hset : ∀ x, la (l.set i j) x = if i = x then (j : Int) else la l x := fun x => la_set hil
        refine ⟨List.length_set, ⟨j, hj, by rw [hset, if_pos rfl], ha0j, hmay⟩, fun x hx hxi => .inl (by rw [hset, if_neg (fun e => hxi e.symm)]), fun q hq => ?_, fun X hX => ⟨fun x q hx hq hXq hxi => by rw [hset, if_neg (fun e => hxi e.symm)], fun q hq h => ?_⟩⟩
        · show cntA (l.set i j) ts.length q ≤ _
          rw [cnt_set hlen hi]
          have h3 := ind_nn (la l i == (q : Int))
          have h4 := hcap q hq
          by_cases hqj : q = j
          · subst hqj
            have e5 : ((q : Int) == (q : Int)) = true := by simp
            rw [e5, ind_t]
            omega
          · have h1 : ((j : Int) == (q : Int)) = false := by rw [beq_eq_false_iff_ne]; omega
            rw [h1, ind_f]
            omega
        · have h : la (l.set i j) i = (q : Int) := h
          rw [hset, if_pos rfl] at h
          have hjq : j = q := by omega
          cases hX2 : X q with
          | false => rfl
          | true =>
            have := hX.full q hq hX2
            rw [← hjq] at this
            omega
      · have hks := seatK_spec (i := i) (j := j) hlen hcap hrec hi hj hmay (a0 := a0) hpre0 ha0j (fun q hq => by
            unfold qa
            rw [List.getD_eq_getElem?_getD, List.getElem?_set, if_neg (fun e => hq e.symm), ← List.getD_eq_getElem?_getD]) (List.range ts.length) (a.set j true) (fun k hk => List.mem_range.1 hk) (by rw [List.length_set]; exact hal) (fun q hq => by
            rw [hseta]
            split
            · rfl
            · exact hmono q hq) (by rw [hseta, if_pos rfl]) (by have := un_set hj hal haj; omega)
        obtain ⟨ky, kn⟩ := hks
        by_cases hr : (seatK rec l i j (List.range ts.length) (a.set j true)).1 = true
        · have e : seatJ ws (lw ts i) room ts.length rec l i (j :: js) a = seatK rec l i j (List.range ts.length) (a.set j true) := by
            rw [seatJ, if_neg hskip, if_neg hroom, if_pos hr]
          rw [e]
          exact ⟨fun h => ky h, fun h => by rw [hr] at h; cases h⟩
        · have hr' : (seatK rec l i j (List.range ts.length) (a.set j true)).1 = false := by simpa using hr
          have e : seatJ ws (lw ts i) room ts.length rec l i (j :: js) a = seatJ ws (lw ts i) room ts.length rec l i js (seatK rec l i j (List.range ts.length) (a.set j true)).2.2 := by
            rw [seatJ, if_neg hskip, if_neg hroom, if_neg hr]
          rw [e]
          obtain ⟨_, no, kall⟩ := kn hr'
          obtain ⟨b, hb⟩ : ∃ b, b = (seatK rec l i j (List.range ts.length) (a.set j true)).2.2 := ⟨_, rfl⟩
          rw [← hb] at no kall ⊢
          have hab : ∀ q, qa a q = true → qa b q = true := fun q hq => no.mono q (by
            rw [hseta]
            split
            · rfl
            · exact hq)
          have hbj : qa b j = true := no.mono j (by rw [hseta, if_pos rfl])
          have nob : NoS ws ts room l i (fun q => q = j) a b := by
            refine ⟨by rw [no.len, List.length_set], hab, fun q hq _ _ => by rw [hq]; exact hbj, fun q hq hbq haq => ?_⟩
            by_cases hqj : q = j
            · subst hqj
              exact ⟨by omega, fun k hk hlk => kall k (List.mem_range.2 hk) hlk⟩
            · exact no.full q hq hbq (by rw [hseta, if_neg (fun e => hqj e.symm)]; exact haq)
          obtain ⟨iy, ino⟩ := seatJ_spec hlen hcap hrec hi hpre0 js b hjs' (by rw [nob.len, hal]) (fun q hq => hab q (hmono q hq)) (by have := un_mono (W := ws.length) hab; omega)
          refine ⟨iy, fun h => ?_⟩
          obtain ⟨h1, h2⟩ := ino h
          refine ⟨h1, nob.trans h2 (fun q hq hql hm => ?_)⟩
          rcases List.mem_cons.1 hq with rfl | hq
          · exact h2.mono q hbj
          · exact h2.all q hq hql hm
theorem seatF_spec (hlen : l.length = ts.length) (hcap : ∀ q, q < ws.length → cntA l ts.length q ≤ room.getD q 0) : ∀ f : Nat, SpecF ws ts room l (seatF ws ts room l f) f
  | 0 => fun i a _ _ _ hun => by have := un_nn ws.length a; omega
  | f + 1 => fun i a hi hal hpre hun => by
    obtain ⟨h1, h2⟩ := seatJ_spec hlen hcap (seatF_spec hlen hcap f) hi hpre (List.range ws.length) a (fun j hj => List.mem_range.1 hj) hal (fun _ h => h) (by push_cast at hun; exact hun)
    refine ⟨h1, fun h => ?_⟩
    obtain ⟨h3, h4⟩ := h2 h
    exact ⟨h3, h4.len, h4.mono, fun q _ hq hm => h4.all q (List.mem_range.2 hq) hq hm, h4.full⟩
end
end Go.Proofs.Ytdinknpagklkjaa
