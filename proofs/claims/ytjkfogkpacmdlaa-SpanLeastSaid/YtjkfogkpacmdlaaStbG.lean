/- Two runs side by side are merged in place: the program's symMerge, its third case, the cut on the right. Conditions: the closure compares by value; the row is the caller's own. -/
import Derived.Test.YtjkfogkpacmdlaaStbE
namespace Go.Proofs.Ytjkfogkpacmdlaa
open Go.RowKit
set_option maxRecDepth 100000 in
set_option maxHeartbeats 4000000 in
theorem sym_bigA (F : FuncId) (hF : Ent Try.prog F) (cap : Array Value) (V : Int → Int) (A : Option Addr) (N n cp B a m b : Nat) (X L R Z : List Int) (w0 w : World) (hB : B ≤ w.heap.size) (hbw : Below B w0 w) (ha : X.length = a) (hm : a + L.length = m) (hb : m + R.length = b) (hL0 : 1 < L.length) (hR0 : 1 < R.length) (hn : (X ++ (L ++ (R ++ Z))).length = n) (hn1 : n ≤ 1000) (hcs : (a + b) / 2 < m)
    (hL : SrtV V L) (hR : SrtV V R) (hlt : ∀ x ∈ L, ∀ y ∈ R, x < y) (hLN : ∀ x ∈ L, 0 ≤ x ∧ x < N) (hRN : ∀ x ∈ R, 0 ≤ x ∧ x < N) (hc : CmpV F cap V N B w0) (hrec : SymOk F cap V A N n cp B w0 (b - a)) (ho : Own w B 3 1 icell A cp (X ++ (L ++ (R ++ Z)))) :
    Calls Try.prog 66 #[.slice A n cp, .int .i64 a, .int .i64 m, .int .i64 b, .func (.func F) #[] cap] w (Merged V A cp B X (L ++ R) Z w) := by
  unfold Ent at hF
  unfold CmpV at hc
  unfold SymOk at hrec
  have HC := Lib.hid hc
  have hbn : b ≤ n := by
    rw [← hn]
    simp only [List.length_append]
    omega
  obtain ⟨mid, hmid⟩ : ∃ mid, mid = (a + b) / 2 := ⟨_, rfl⟩
  obtain ⟨l, hl⟩ : ∃ l, l = L.length := ⟨_, rfl⟩
  obtain ⟨r, hr⟩ : ∃ r, r = R.length := ⟨_, rfl⟩
  obtain ⟨u, hu⟩ : ∃ u, u = X ++ (L ++ (R ++ Z)) := ⟨_, rfl⟩
  have HUL : ∀ c, c < l → u.getD (a + c) 0 = L.getD c 0 := fun c hc => by rw [hu]; exact row_at ha (by omega) rfl
  have HUR : ∀ c, c < r → u.getD (m + c) 0 = R.getD c 0 := fun c hc => by
    have := row_at (X := X ++ L) (P := R) (Z := Z) (c := c) (n := m + c) (a := m) (by rw [List.length_append]; omega) (by omega) rfl
    rw [hu]
    simpa only [List.append_assoc] using this
  have hun : u.length = n := by rw [hu]; exact hn
  have HEL : ∀ i j, i < l → j < r → L.getD i 0 < R.getD j 0 ∧ 0 ≤ L.getD i 0 ∧ L.getD i 0 < N ∧ 0 ≤ R.getD j 0 ∧ R.getD j 0 < N := fun i j hi hj => by
    have m1 : L.getD i 0 ∈ L := by rw [getD_at L i (by omega)]; exact List.getElem_mem _
    have m2 : R.getD j 0 ∈ R := by rw [getD_at R j (by omega)]; exact List.getElem_mem _
    exact ⟨hlt _ m1 _ m2, (hLN _ m1).1, (hLN _ m1).2, (hRN _ m2).1, (hRN _ m2).2⟩
  have HMG : ∀ i j, i ≤ l → j ≤ r → symA V L R i j → symB V L R i j → ∀ S T, Mrg V S (L.take i ++ R.take j) → Mrg V T (L.drop i ++ R.drop j) → Mrg V (S ++ T) (L ++ R) := fun i j hi hj h1 h2 S T => mrg_halves hL hR (by omega) (by omega) h1 h2
  have hROT : ∀ st, a ≤ st → st < m → st < mid → mid ≤ st + r → ∀ wk, Below B w wk → Own wk B 3 1 icell A cp u → Calls Try.prog 79 #[.slice A n cp, .int .i64 st, .int .i64 m, .int .i64 ((mid + m - st : Nat) : Int), .func (.func F) #[] cap] wk fun e w' => (∃ v, e = .returned v) ∧ Below B w w' ∧ Own w' B 3 1 icell A cp (X ++ (L.take (st - a) ++ (R.take (mid - st) ++ (L.drop (st - a) ++ (R.drop (mid - st) ++ Z))))) := fun st h1 h2 h3 h4 wk hb1 ho1 => by
    have := rotate_ A n cp B st m (mid + m - st) (.func (.func F) #[] cap) (X ++ L.take (st - a)) (L.drop (st - a)) (R.take (mid - st)) (R.drop (mid - st) ++ Z) wk (Nat.le_trans hB hb1.size) (by simp only [List.length_append, List.length_take]; omega) (by rw [List.length_drop]; omega) (by rw [List.length_take]; omega) (by rw [List.length_drop]; omega) (by rw [List.length_take]; omega)
      (by
        rw [← hn]
        simp only [List.length_append, List.length_take, List.length_drop]
        omega) hn1 (by
        have e : X ++ L.take (st - a) ++ (L.drop (st - a) ++ (R.take (mid - st) ++ (R.drop (mid - st) ++ Z))) = u := by
          rw [hu, ← List.append_assoc (R.take _), List.take_append_drop, List.append_assoc X, ← List.append_assoc (L.take _), List.take_append_drop]
        rw [e]
        exact ho1)
    refine this.mono ?_
    rintro e w' ⟨hv, hb2, ho2⟩
    exact ⟨hv, hb1.trans hb2, by simpa only [List.append_assoc] using ho2⟩
  have hNOROT : ∀ st, a ≤ st → st ≤ m → st ≤ mid → ¬ (st < m ∧ st < mid) → ∀ wk, Own wk B 3 1 icell A cp u → Own wk B 3 1 icell A cp (X ++ (L.take (st - a) ++ (R.take (mid - st) ++ (L.drop (st - a) ++ (R.drop (mid - st) ++ Z))))) := fun st h1 h2 h3 h4 wk ho1 => by
    have e : X ++ (L.take (st - a) ++ (R.take (mid - st) ++ (L.drop (st - a) ++ (R.drop (mid - st) ++ Z)))) = u := by
      rw [hu]
      by_cases k : st < m
      · have : mid - st = 0 := by omega
        rw [this, List.take_zero, List.drop_zero, List.nil_append, ← List.append_assoc (L.take _), List.take_append_drop]
      · rw [List.take_of_length_le (by omega : L.length ≤ st - a), List.drop_of_length_le (by omega : L.length ≤ st - a), List.nil_append, ← List.append_assoc (R.take _), List.take_append_drop]
    rw [e]
    exact ho1
  have hREC1 : ∀ st, a ≤ st → st ≤ m → mid ≤ st + r → ∀ wk, Below B w wk → Own wk B 3 1 icell A cp (X ++ (L.take (st - a) ++ (R.take (mid - st) ++ (L.drop (st - a) ++ (R.drop (mid - st) ++ Z))))) → a < st → st < mid → Calls Try.prog 66 #[.slice A n cp, .int .i64 a, .int .i64 st, .int .i64 mid, .func (.func F) #[] cap] wk fun e w' => (∃ v, e = .returned v) ∧ Below B w w' ∧ ∃ S, Mrg V S (L.take (st - a) ++ R.take (mid - st)) ∧ Own w' B 3 1 icell A cp (X ++ (S ++ (L.drop (st - a) ++ (R.drop (mid - st) ++ Z)))) := fun st h1 h2 h3 wk hb1 ho1 h4 h5 => by
    refine (hrec a st mid X (L.take (st - a)) (R.take (mid - st)) _ wk (hbw.trans hb1) ha (by rw [List.length_take]; omega) (by rw [List.length_take]; omega) (by rw [List.length_take]; omega) (by rw [List.length_take]; omega) ?_ (by omega) (hL.take _) (hR.take _) (fun x hx y hy => hlt x (List.mem_of_mem_take hx) y (List.mem_of_mem_take hy)) (fun x hx => hLN x (List.mem_of_mem_take hx)) (fun x hx => hRN x (List.mem_of_mem_take hx)) ho1).mono ?_
    · rw [← hn]
      simp only [List.length_append, List.length_take, List.length_drop]
      omega
    · rintro e w' ⟨hv, hb2, S, hS, ho2⟩
      exact ⟨hv, hb1.trans hb2, S, hS, ho2⟩
  have hREC2 : ∀ st, a ≤ st → st ≤ m → st ≤ mid → mid ≤ st + r → ∀ S, Mrg V S (L.take (st - a) ++ R.take (mid - st)) → ∀ wk, Below B w wk → Own wk B 3 1 icell A cp (X ++ (S ++ (L.drop (st - a) ++ (R.drop (mid - st) ++ Z)))) → st < m → mid + m - st < b → Calls Try.prog 66 #[.slice A n cp, .int .i64 mid, .int .i64 ((mid + m - st : Nat) : Int), .int .i64 b, .func (.func F) #[] cap] wk fun e w' => (∃ v, e = .returned v) ∧ Below B w w' ∧ ∃ T, Mrg V T (L.drop (st - a) ++ R.drop (mid - st)) ∧ Own w' B 3 1 icell A cp (X ++ (S ++ (T ++ Z))) := fun st h1 h2 h3 h4 S hS wk hb1 ho1 h5 h6 => by
    have hSl : S.length = mid - a := by
      rw [hS.len]
      simp only [List.length_append, List.length_take]
      omega
    refine (hrec mid (mid + m - st) b (X ++ S) (L.drop (st - a)) (R.drop (mid - st)) Z wk (hbw.trans hb1) (by rw [List.length_append]; omega) (by rw [List.length_drop]; omega) (by rw [List.length_drop]; omega) (by rw [List.length_drop]; omega) (by rw [List.length_drop]; omega) ?_ (by omega) (hL.drop _) (hR.drop _) (fun x hx y hy => hlt x (List.mem_of_mem_drop hx) y (List.mem_of_mem_drop hy)) (fun x hx => hLN x (List.mem_of_mem_drop hx)) (fun x hx => hRN x (List.mem_of_mem_drop hx)) (by simpa only [List.append_assoc] using ho1)).mono ?_
    · rw [← hn]
      simp only [List.length_append, List.length_drop]
      omega
    · rintro e w' ⟨hv, hb2, T, hT, ho2⟩
      exact ⟨hv, hb1.trans hb2, T, hT, by simpa only [List.append_assoc] using ho2⟩
  have hNO1 : ∀ st, a ≤ st → ¬ (a < st ∧ st < mid) → Mrg V (L.take (st - a) ++ R.take (mid - st)) (L.take (st - a) ++ R.take (mid - st)) := fun st h1 h2 => by
    refine ⟨?_, List.Perm.refl _⟩
    by_cases k : a < st
    · rw [show mid - st = 0 by omega, List.take_zero, List.append_nil]
      exact hL.take _
    · rw [show st - a = 0 by omega, List.take_zero, List.nil_append]
      exact hR.take _
  have hNO2 : ∀ st, a ≤ st → ¬ (st < m ∧ mid + m - st < b) → st ≤ mid → Mrg V (L.drop (st - a) ++ R.drop (mid - st)) (L.drop (st - a) ++ R.drop (mid - st)) := fun st h1 h2 h3 => by
    refine ⟨?_, List.Perm.refl _⟩
    by_cases k : st < m
    · rw [List.drop_of_length_le (by omega : R.length ≤ mid - st), List.append_nil]
      exact hL.drop _
    · rw [List.drop_of_length_le (by omega : L.length ≤ st - a), List.nil_append]
      exact hR.drop _
  have hkey : (mid < m ∧ SymI V L R a m mid B A cp u w (.int .i64 ((mid + m - b : Nat) : Int)) (.int .i64 (mid : Int)) w) ∨ (¬ mid < m ∧ SymI V L R a m mid B A cp u w (.int .i64 (a : Int)) (.int .i64 (m : Int)) w) := by
    rw [← hu] at ho
    by_cases k : mid < m
    · exact .inl ⟨k, mid + m - b, mid, rfl, rfl, by omega, by omega, by omega, by omega, by omega, .inr (.inl (by omega)), .inl (by omega), Below.refl _ _, ho⟩
    · exact .inr ⟨k, a, m, rfl, rfl, by omega, by omega, by omega, by omega, by omega, .inl (by omega), .inr (.inl (by omega)), Below.refl _ _, ho⟩
  rw [← hmid] at hcs
  obtain ⟨hk, hI0⟩ := hkey.resolve_right fun h => h.1 hcs
  clear hcs hkey
  have HROT := Lib.hid hROT
  have HNOROT := Lib.hid hNOROT
  have HREC1 := Lib.hid hREC1
  have HREC2 := Lib.hid hREC2
  have HNO1 := Lib.hid hNO1
  have HNO2 := Lib.hid hNO2
  have HBW := Lib.hid hbw
  have HLL := Lib.hid hl
  have HRL := Lib.hid hr
  have hma : a < mid := by omega
  have hmb : mid < b := by omega
  have hd0 : (0 : Int) ≤ (a : Int) + (b : Int) := by omega
  have hdv : ((a : Int) + (b : Int)) / 2 = (mid : Int) := by omega
  rw [← hl] at hm hL0
  rw [← hr] at hb hR0
  clear hROT hNOROT hREC1 hREC2 hNO1 hNO2 hbw hl hr hmid hrec ho hn hL hR hlt hLN hRN hc ha hu
  have hw1 : IntKind.i64.wrap ((m : Int) - a) = (l : Int) := by rw [IntWalk.i64_in _ (by omega)]; omega
  have hw2 : IntKind.i64.wrap ((b : Int) - m) = (r : Int) := by rw [IntWalk.i64_in _ (by omega)]; omega
  have hlb : ((l : Int) == 1) = false := by simp; omega
  have hrb : ((r : Int) == 1) = false := by simp; omega
  have hw3 : IntKind.i64.wrap ((a : Int) + b) = (a : Int) + b := IntWalk.i64_in _ (by omega)
  have hw4 : IntKind.u64.wrap ((a : Int) + b) = (a : Int) + b := IntWalk.u64_in _ (by omega)
  obtain ⟨nn, hnn⟩ : ∃ nn, nn = mid + m := ⟨_, rfl⟩
  have hw5 : IntKind.i64.wrap ((mid : Int) + m) = (nn : Int) := by rw [IntWalk.i64_in _ (by omega)]; omega
  have hw6' : mid < m → IntKind.i64.wrap ((nn : Int) - b) = ((mid + m - b : Nat) : Int) := fun hk => by rw [IntWalk.i64_in _ (by omega)]; omega
  obtain ⟨pp, hpp⟩ : ∃ pp, pp + 1 = mid + m := ⟨mid + m - 1, by omega⟩
  have hw7 : IntKind.i64.wrap ((nn : Int) - 1) = (pp : Int) := by rw [IntWalk.i64_in _ (by omega)]; omega
  have HNN := Lib.hid hnn
  have HW6 := Lib.hid hw6'
  have hmb2' : mid < m → b ≤ mid + m := fun _ => by omega
  clear hnn hw6' hmb2'
  go_enter Try.func66, Try.ntmps66
  have HI0 := Lib.hid hI0
  clear hI0
  first | have hw6 := HW6.out hk | skip
  go_wp2_with fail
  go_loopw [20, 21, 23] (fun s t _ wr => SymI V L R a m mid B A cp u w s t wr) (fun s t _ _ => gapI s t)
  case atStart => exact HI0.out
  case round =>
    clear HI0 HW6 hw1 hw2 hw3 hw4 hw5 hw7 hlb hrb hk
    first | clear hw6 | skip
    rename World => wr
    obtain ⟨st, q, rfl, rfl, has, hsq, hqd, hqm, hms, hA, hBB, hb', ho⟩ := hrel
    by_cases hlt : st < q
    · have hr := HRL.out
      have hl := HLL.out
      obtain ⟨c, hcd⟩ : ∃ c, c = (st + q) / 2 := ⟨_, rfl⟩
      have hcp : st ≤ c := by omega
      have hcq : c < q := by omega
      obtain ⟨ci, hci⟩ : ∃ ci, ci = c - a := ⟨_, rfl⟩
      obtain ⟨cj, hcj⟩ : ∃ cj, cj = mid - 1 - c := ⟨_, rfl⟩
      have e1 := HUL ci (by omega)
      have e2 := HUR cj (by omega)
      rw [show a + ci = c by omega] at e1
      obtain ⟨pc, hpc⟩ : ∃ pc, pc = m + cj := ⟨_, rfl⟩
      rw [← hpc] at e2
      have l1 : c < u.length := by omega
      have l2 : pc < u.length := by omega
      obtain ⟨g, rfl, hg1, hg2, ca, fa⟩ := ho.cell1 (f := fun x : Int => .int .i64 x) l1
      obtain ⟨g', hgg, _, _, cb, fb⟩ := ho.cell1 (f := fun x : Int => .int .i64 x) l2
      obtain rfl : g = g' := by simpa using hgg
      rw [← getD_at _ _ l1 0, e1] at ca
      rw [← getD_at _ _ l2 0, e2] at cb
      have hel := HEL ci cj (by omega) (by omega)
      obtain ⟨x, hx⟩ : ∃ x, x = L.getD ci 0 := ⟨_, rfl⟩
      obtain ⟨y, hy⟩ : ∃ y, y = R.getD cj 0 := ⟨_, rfl⟩
      rw [← hx, ← hy] at hel
      rw [← hx] at ca
      rw [← hy] at cb
      have HCL : Hid (∀ M, Calls Try.prog F (#[.int .i64 y, .int .i64 x] ++ cap) (wr.drewN M) fun e w' => e = .returned (.int .i64 (cmpI (V y) (V x))) ∧ ∃ m, w' = (wr.drewN M).drewN m) :=
        Lib.hid (fun M => HC.out y x (wr.drewN M) (by omega) (by omega) (by omega) (by omega) (HBW.out.trans (below_drewN hb' M)))
      have hneg := cmpI_neg (V y) (V x)
      have hyes : ¬ V y < V x → SymI V L R a m mid B (some ⟨g, 0, none⟩) cp u w (.int .i64 ((c + 1 : Nat) : Int)) (.int .i64 (q : Int)) wr := fun h =>
        ⟨c + 1, q, rfl, rfl, by omega, by omega, by omega, by omega, by omega, .inr (.inr (by
          rw [show c + 1 - a - 1 = ci by omega, show mid - (c + 1) = cj by omega, ← hx, ← hy]
          unfold bfV
          omega)), hBB, hb', ho⟩
      have hno : V y < V x → SymI V L R a m mid B (some ⟨g, 0, none⟩) cp u w (.int .i64 (st : Int)) (.int .i64 (c : Int)) wr := fun h =>
        ⟨st, c, rfl, rfl, by omega, by omega, by omega, by omega, by omega, hA, .inr (.inr (by
          rw [show mid - c - 1 = cj by omega, show c - a = ci by omega, ← hx, ← hy]
          exact .inl h)), hb', ho⟩
      have hd0 : (0 : Int) ≤ (st : Int) + (q : Int) := by omega
      have hdv : ((st : Int) + (q : Int)) / 2 = (c : Int) := by omega
      have hcn : c < n := by omega
      have hpn : pc < n := by omega
      have w1 : IntKind.i64.wrap ((st : Int) + q) = (st : Int) + q := IntWalk.i64_in _ (by omega)
      have w2 : IntKind.u64.wrap ((st : Int) + q) = (st : Int) + q := IntWalk.u64_in _ (by omega)
      have w3 : IntKind.i64.wrap ((pp : Int) - c) = (pc : Int) := by rw [IntWalk.i64_in _ (by omega)]; omega
      have w4 : IntKind.i64.wrap ((c : Int) + 1) = ((c + 1 : Nat) : Int) := by rw [IntWalk.i64_in _ (by omega)]; omega
      have hme1 : gapI (.int .i64 ((c + 1 : Nat) : Int)) (.int .i64 (q : Int)) < gapI (.int .i64 (st : Int)) (.int .i64 (q : Int)) := by simp only [gapI, intOf]; omega
      have hme2 : gapI (.int .i64 (st : Int)) (.int .i64 (c : Int)) < gapI (.int .i64 (st : Int)) (.int .i64 (q : Int)) := by simp only [gapI, intOf]; omega
      have HNG := Lib.hid hneg
      have HYES := Lib.hid hyes
      have HNO := Lib.hid hno
      have HM1 := Lib.hid hme1
      have HM2 := Lib.hid hme2
      obtain ⟨z, hz⟩ : ∃ z, z = cmpI (V y) (V x) := ⟨_, rfl⟩
      rw [← hz] at HCL HNG
      clear hb' ho hl hr hgg hx hy hel hneg hyes hno hme1 hme2 hz hcp hcq hcd hci hcj hpc e1 e2 hA hBB hms hqd hqm
      by_cases hzc : z < 0
      · have hzf : decide (z < 0) = true := decide_eq_true hzc
        go_wp2_with fail
        go_quiet (exact quietN (HCL.out _))
        go_wp2_with fail
        go_roundw
        case rel => exact (HNO.out (HNG.out.1 hzc)).drew _
        case measure => exact HM2.out
      · have hzf : decide (z < 0) = false := decide_eq_false hzc
        go_wp2_with fail
        go_quiet (exact quietN (HCL.out _))
        go_wp2_with fail
        go_roundw
        case rel => exact (HYES.out (by have := HNG.out.2; omega)).drew _
        case measure => exact HM1.out
    · obtain rfl : q = st := by omega
      have hnn := HNN.out
      have hr := HRL.out
      have hl := HLL.out
      rw [← hr] at hms
      rename Nat => st
      have HB := Lib.hid hb'
      have HO := Lib.hid ho
      have FIN := Lib.hid (HMG (st - a) (mid - st) (by omega) (by omega) hA hBB)
      have NO1 := Lib.hid (HNO1.out st has)
      have NO2 := Lib.hid (fun h => HNO2.out st has h hqd)
      have NOROT := Lib.hid (HNOROT.out st has hqm hqd)
      have ROT := Lib.hid (fun wk h1 h2 h3 h4 => HROT.out st has h3 h4 hms wk h1 h2)
      have REC1 := Lib.hid (HREC1.out st has hqm hms)
      have REC2 := Lib.hid (HREC2.out st has hqm hqd hms)
      obtain ⟨i, hi⟩ : ∃ i, i = st - a := ⟨_, rfl⟩
      obtain ⟨j, hj⟩ : ∃ j, j = mid - st := ⟨_, rfl⟩
      obtain ⟨e, he⟩ : ∃ e, e = mid + m - st := ⟨_, rfl⟩
      have hes : e + st = mid + m := by omega
      rw [← hi, ← hj] at FIN NO1 NO2 NOROT ROT REC1 REC2
      rw [← he] at NO2 ROT REC2
      have w1 : IntKind.i64.wrap ((nn : Int) - st) = (e : Int) := by rw [IntWalk.i64_in _ (by omega)]; omega
      have hme : m ≤ e := by omega
      clear hb' ho hA hBB HMG HNO1 HNO2 HNOROT HROT HREC1 HREC2 hl hr HUL HUR HEL hnn HLL HRL HC HBW hlt hsq hi hj he hpp
      by_cases h1 : st < m
      · by_cases h2 : st < mid
        · by_cases q1 : a < st
          · by_cases q2 : e < b
            · go_wp2_with fail
              refine (ROT.out wr HB.out HO.out (by omega) (by omega)).mono ?_
              rintro e w1 ⟨⟨v, rfl⟩, hb1, ho1⟩
              have HB1 := Lib.hid hb1
              have HO1 := Lib.hid ho1
              clear hb1 ho1 HB HO ROT
              go_wp2_with fail
              refine (REC1.out w1 HB1.out HO1.out (by omega) (by omega)).mono ?_
              rintro e w2 ⟨⟨v, rfl⟩, hb2, S, hS, ho2⟩
              have HB2 := Lib.hid hb2
              have HO2 := Lib.hid ho2
              have HS := Lib.hid hS
              clear hb2 ho2 hS
              go_wp2_with fail
              refine (REC2.out S HS.out w2 HB2.out HO2.out (by omega) (by omega)).mono ?_
              rintro e w3 ⟨⟨v, rfl⟩, hb3, T, hT, ho3⟩
              have HB3 := Lib.hid hb3
              have HO3 := Lib.hid ho3
              have HT := Lib.hid hT
              clear hb3 ho3 hT
              go_wp2_with fail
              go_end0
              exact ⟨⟨_, rfl⟩, HB3.out, S ++ T, FIN.out _ _ HS.out HT.out, by simpa only [List.append_assoc] using HO3.out⟩
            · go_wp2_with fail
              refine (ROT.out wr HB.out HO.out (by omega) (by omega)).mono ?_
              rintro e w1 ⟨⟨v, rfl⟩, hb1, ho1⟩
              have HB1 := Lib.hid hb1
              have HO1 := Lib.hid ho1
              clear hb1 ho1 HB HO ROT
              go_wp2_with fail
              refine (REC1.out w1 HB1.out HO1.out (by omega) (by omega)).mono ?_
              rintro e w2 ⟨⟨v, rfl⟩, hb2, S, hS, ho2⟩
              have HB2 := Lib.hid hb2
              have HO2 := Lib.hid ho2
              have HS := Lib.hid hS
              clear hb2 ho2 hS
              go_wp2_with fail
              go_end0
              exact ⟨⟨_, rfl⟩, HB2.out, S ++ (L.drop i ++ R.drop j), FIN.out _ _ HS.out (NO2.out (by omega)), (by simpa only [List.append_assoc] using HO2.out)⟩
          · by_cases q2 : e < b
            · go_wp2_with fail
              refine (ROT.out wr HB.out HO.out (by omega) (by omega)).mono ?_
              rintro e w1 ⟨⟨v, rfl⟩, hb1, ho1⟩
              have HB1 := Lib.hid hb1
              have HO1 := Lib.hid ho1
              clear hb1 ho1 HB HO ROT
              go_wp2_with fail
              refine (REC2.out (L.take i ++ R.take j) (NO1.out (by omega)) w1 HB1.out (by simpa only [List.append_assoc] using HO1.out) (by omega) (by omega)).mono ?_
              rintro e w3 ⟨⟨v, rfl⟩, hb3, T, hT, ho3⟩
              have HB3 := Lib.hid hb3
              have HO3 := Lib.hid ho3
              have HT := Lib.hid hT
              clear hb3 ho3 hT
              go_wp2_with fail
              go_end0
              exact ⟨⟨_, rfl⟩, HB3.out, (L.take i ++ R.take j) ++ T, FIN.out _ _ (NO1.out (by omega)) HT.out, by simpa only [List.append_assoc] using HO3.out⟩
            · go_wp2_with fail
              refine (ROT.out wr HB.out HO.out (by omega) (by omega)).mono ?_
              rintro e w1 ⟨⟨v, rfl⟩, hb1, ho1⟩
              have HB1 := Lib.hid hb1
              have HO1 := Lib.hid ho1
              clear hb1 ho1 HB HO ROT
              go_wp2_with fail
              go_end0
              exact ⟨⟨_, rfl⟩, HB1.out, (L.take i ++ R.take j) ++ (L.drop i ++ R.drop j), FIN.out _ _ (NO1.out (by omega)) (NO2.out (by omega)), (by simpa only [List.append_assoc] using HO1.out)⟩
        · by_cases q2 : e < b
          · go_wp2_with fail
            refine (REC2.out (L.take i ++ R.take j) (NO1.out (by omega)) wr HB.out (by simpa only [List.append_assoc] using (NOROT.out (by omega) wr HO.out)) (by omega) (by omega)).mono ?_
            rintro e w3 ⟨⟨v, rfl⟩, hb3, T, hT, ho3⟩
            have HB3 := Lib.hid hb3
            have HO3 := Lib.hid ho3
            have HT := Lib.hid hT
            clear hb3 ho3 hT
            go_wp2_with fail
            go_end0
            exact ⟨⟨_, rfl⟩, HB3.out, (L.take i ++ R.take j) ++ T, FIN.out _ _ (NO1.out (by omega)) HT.out, by simpa only [List.append_assoc] using HO3.out⟩
          · omega
      · by_cases h2 : st < mid
        · by_cases q1 : a < st
          · go_wp2_with fail
            refine (REC1.out wr HB.out (NOROT.out (by omega) wr HO.out) (by omega) (by omega)).mono ?_
            rintro e w2 ⟨⟨v, rfl⟩, hb2, S, hS, ho2⟩
            have HB2 := Lib.hid hb2
            have HO2 := Lib.hid ho2
            have HS := Lib.hid hS
            clear hb2 ho2 hS
            go_wp2_with fail
            go_end0
            exact ⟨⟨_, rfl⟩, HB2.out, S ++ (L.drop i ++ R.drop j), FIN.out _ _ HS.out (NO2.out (by omega)), (by simpa only [List.append_assoc] using HO2.out)⟩
          · omega
        · go_wp2_with fail
          go_end0
          exact ⟨⟨_, rfl⟩, HB.out, (L.take i ++ R.take j) ++ (L.drop i ++ R.drop j), FIN.out _ _ (NO1.out (by omega)) (NO2.out (by omega)), (by simpa only [List.append_assoc] using (NOROT.out (by omega) wr HO.out))⟩
end Go.Proofs.Ytjkfogkpacmdlaa
