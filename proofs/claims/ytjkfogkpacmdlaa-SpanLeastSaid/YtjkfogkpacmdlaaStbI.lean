/- Two runs side by side are merged, of any length; a range is sorted by insertion. Conditions: the closure compares by value; the row is the caller's own. -/
import Derived.Test.YtjkfogkpacmdlaaStbG
import Derived.Test.YtjkfogkpacmdlaaStbH
namespace Go.Proofs.Ytjkfogkpacmdlaa
open Go.RowKit

theorem one_of {L : List Int} (h : L.length = 1) : ∃ x, L = [x] := by
  match L, h with
  | [x], _ => exact ⟨x, rfl⟩
theorem sym_ok (F : FuncId) (hF : Ent Try.prog F) (cap : Array Value) (V : Int → Int) (A : Option Addr) (N n cp B : Nat) (w0 : World) (hB : B ≤ w0.heap.size) (hn1 : n ≤ 1000) (hc : CmpV F cap V N B w0) : ∀ d, SymOk F cap V A N n cp B w0 d
  | 0 => fun a m b X L R Z w _ _ _ _ _ _ _ h => absurd h (by omega)
  | d + 1 => fun a m b X L R Z w hbw ha hm hb hL0 hR0 hn hd hL hR hlt hLN hRN ho => by
    have hBw : B ≤ w.heap.size := Nat.le_trans hB hbw.size
    have hrec : SymOk F cap V A N n cp B w0 (b - a) := fun a' m' b' X' L' R' Z' w' g1 g2 g3 g4 g5 g6 g7 g8 => sym_ok F hF cap V A N n cp B w0 hB hn1 hc d a' m' b' X' L' R' Z' w' g1 g2 g3 g4 g5 g6 g7 (by omega)
    by_cases h1 : L.length = 1
    · obtain ⟨x, rfl⟩ := one_of h1
      exact sym_left F hF cap V A N n cp B a m b x X R Z w0 w hBw hbw ha hm hb hR0 hn hn1 hR (fun y hy => hlt x (by simp) y hy) (hLN x (by simp)) hRN hc ho
    · by_cases h2 : R.length = 1
      · obtain ⟨y, rfl⟩ := one_of h2
        exact sym_right F hF cap V A N n cp B a m b y X L Z w0 w hBw hbw ha hm hb (by omega) hn hn1 hL (fun x hx => hlt x hx y (by simp)) (hRN y (by simp)) hLN hc ho
      · by_cases h3 : (a + b) / 2 < m
        · exact sym_bigA F hF cap V A N n cp B a m b X L R Z w0 w hBw hbw ha hm hb (by omega) (by omega) hn hn1 h3 hL hR hlt hLN hRN hc hrec ho
        · exact sym_bigB F hF cap V A N n cp B a m b X L R Z w0 w hBw hbw ha hm hb (by omega) (by omega) hn hn1 h3 hL hR hlt hLN hRN hc hrec ho

/-- While one is put into the part that is sorted. -/
structure InsI (V : Int → Int) (S : List Int) (x : Int) (t : Nat) : Prop where
  le : t ≤ S.length
  hi : t = S.length ∨ bfV V x (S.getD t 0)
set_option maxRecDepth 100000 in
set_option maxHeartbeats 2000000 in
theorem insert_range (F : FuncId) (hF : Ent Try.prog F) (cap : Array Value) (V : Int → Int) (A : Option Addr) (N n cp B a b : Nat) (X P Z : List Int) (w0 w : World) (hB : B ≤ w.heap.size) (hbw : Below B w0 w) (ha : X.length = a) (hb : a + P.length = b) (hn : (X ++ (P ++ Z)).length = n) (hn1 : n ≤ 1000)
    (hP : P.Pairwise (· < ·)) (hPN : ∀ x ∈ P, 0 ≤ x ∧ x < N) (hc : CmpV F cap V N B w0) (ho : Own w B 3 1 icell A cp (X ++ (P ++ Z))) :
    Calls Try.prog 65 #[.slice A n cp, .int .i64 a, .int .i64 b, .func (.func F) #[] cap] w (Merged V A cp B X P Z w) := by
  unfold Ent at hF
  unfold CmpV at hc
  have HC := Lib.hid hc
  have hbn : b ≤ n := by
    rw [← hn]
    simp only [List.length_append]
    omega
  obtain ⟨l, hl⟩ : ∃ l, l = P.length := ⟨_, rfl⟩
  have HLEN : ∀ k S x t, k < l → Mrg V S (P.take k) → (thru X S (P.drop (k + 1) ++ Z) x t).length = n := fun k S x t hk hS => by
    rw [thru_len, hS.len, ← hn]
    simp only [List.length_append, List.length_take, List.length_drop]
    omega
  have HSTEP : ∀ k S x t, t < S.length → (thru X S (P.drop (k + 1) ++ Z) x (t + 1)).getD (a + t) 0 = S.getD t 0 ∧ ((thru X S (P.drop (k + 1) ++ Z) x (t + 1)).set (a + t + 1) (S.getD t 0)).set (a + t) x = thru X S (P.drop (k + 1) ++ Z) x t := fun k S x t ht => ⟨(thru_step ht ha).2.2.1, (thru_step ht ha).2.2.2⟩
  have HHERE : ∀ k S x t, t ≤ S.length → (thru X S (P.drop (k + 1) ++ Z) x t).getD (a + t) 0 = x := fun k S x t ht => thru_here ht ha
  have HENT : ∀ k S, k < l → X ++ (S ++ (P.drop k ++ Z)) = thru X S (P.drop (k + 1) ++ Z) (P.getD k 0) S.length := fun k S hk => by
    rw [thru_all, List.drop_eq_getElem_cons (by omega : k < P.length), getD_at P k (by omega)]
    simp only [List.append_assoc, List.cons_append, List.nil_append]
  have HEL : ∀ k S, k < l → Mrg V S (P.take k) → 0 ≤ P.getD k 0 ∧ P.getD k 0 < N ∧ ∀ t, t < S.length → S.getD t 0 < P.getD k 0 ∧ 0 ≤ S.getD t 0 ∧ S.getD t 0 < N := fun k S hk hS => by
    have m1 : P.getD k 0 ∈ P := by rw [getD_at P k (by omega)]; exact List.getElem_mem _
    refine ⟨(hPN _ m1).1, (hPN _ m1).2, fun t ht => ?_⟩
    have m2 : S.getD t 0 ∈ P.take k := hS.perm.mem_iff.1 (by rw [getD_at S t ht]; exact List.getElem_mem _)
    have m3 := hPN _ (List.mem_of_mem_take m2)
    refine ⟨?_, m3.1, m3.2⟩
    obtain ⟨i, hi, e⟩ := List.getElem_of_mem m2
    rw [List.length_take] at hi
    rw [List.getElem_take] at e
    rw [← e, getD_at P k (by omega)]
    exact List.pairwise_iff_getElem.1 hP i k (by omega) (by omega) (by omega)
  have HDONE : ∀ k S t, k < l → Mrg V S (P.take k) → InsI V S (P.getD k 0) t → (t = 0 ∨ bfV V (S.getD (t - 1) 0) (P.getD k 0)) → ∀ wk, Own wk B 3 1 icell A cp (thru X S (P.drop (k + 1) ++ Z) (P.getD k 0) t) → ∃ S', Mrg V S' (P.take (k + 1)) ∧ Own wk B 3 1 icell A cp (X ++ (S' ++ (P.drop (k + 1) ++ Z))) := fun k S t hk hS hI h1 wk ho1 => by
    have := srt_split hS.srt hI.le h1 hI.hi
    refine ⟨S.take t ++ P.getD k 0 :: S.drop t, ⟨ins_srt (by rw [List.take_append_drop]; exact hS.srt) this.1 this.2, ?_⟩, by simpa [thru] using ho1⟩
    refine List.perm_middle.trans ?_
    rw [List.take_append_drop, List.take_succ_eq_append_getElem (by omega : k < P.length), ← getD_at P k (by omega) 0]
    exact ((hS.perm.cons _).trans (List.perm_append_singleton _ _).symm)
  have HST : Hid (∃ S, Mrg V S (P.take 1) ∧ Own w B 3 1 icell A cp (X ++ (S ++ (P.drop 1 ++ Z)))) := Lib.hid (by
    refine ⟨P.take 1, ⟨?_, List.Perm.refl _⟩, by rw [← List.append_assoc (P.take 1), List.take_append_drop]; exact ho⟩
    match P with
    | [] => exact .nil
    | p :: Q => exact List.pairwise_singleton _ _)
  have HFIN : Hid (∀ k S wk, l ≤ k → Mrg V S (P.take k) → Own wk B 3 1 icell A cp (X ++ (S ++ (P.drop k ++ Z))) → ∃ S, Mrg V S P ∧ Own wk B 3 1 icell A cp (X ++ (S ++ Z))) := Lib.hid (fun k S wk hk hS ho1 => by
    rw [List.take_of_length_le (by omega)] at hS
    rw [List.drop_of_length_le (by omega), List.nil_append] at ho1
    exact ⟨S, hS, ho1⟩)
  have HBW := Lib.hid hbw
  rw [← hl] at hb
  have HTL : ∀ k S, k ≤ l → Mrg V S (P.take k) → S.length = k := fun k S hk hS => by
    rw [hS.len, List.length_take]
    omega
  have HLL := Lib.hid hl
  clear hl hbw hn ho hP hPN hc ha
  go_enter Try.func65, Try.ntmps65
  have hw0 : IntKind.i64.wrap ((a : Int) + 1) = ((a + 1 : Nat) : Int) := by rw [IntWalk.i64_in _ (by omega)]; omega
  go_wp2_with fail
  go_loopw [8] (fun s wr => ∃ (k : Nat) (S : List Int), 1 ≤ k ∧ k ≤ l + 1 ∧ s = .int .i64 ((a + k : Nat) : Int) ∧ Below B w wr ∧ Mrg V S (P.take k) ∧ Own wr B 3 1 icell A cp (X ++ (S ++ (P.drop k ++ Z)))) (fun s _ => b - (intOf s).toNat)
  case atStart =>
    obtain ⟨S, h1, h2⟩ := HST.out
    exact ⟨1, S, by omega, by omega, rfl, Below.refl _ _, h1, h2⟩
  case round =>
    clear HST hw0
    rename World => wr
    obtain ⟨k, S, hk1, hkn, rfl, hb', hS, ho⟩ := hrel
    have HB := Lib.hid hb'
    by_cases hlt : k < l
    · rw [HENT k S hlt, HTL k S (by omega) hS] at ho
      have hel := HEL k S hlt hS
      have HDN := fun t => HDONE k S t hlt hS
      have HSP := HSTEP k S
      have HHE := HHERE k S
      have HLN := HLEN k S
      have hSl := HTL k S (by omega) hS
      obtain ⟨x, hx⟩ : ∃ x, x = P.getD k 0 := ⟨_, rfl⟩
      rw [← hx] at ho hel
      simp only [← hx] at HDN
      have HS := Lib.hid hS
      have HO := Lib.hid ho
      have HI : Hid (InsI V S x k) := Lib.hid ⟨by omega, .inl hSl.symm⟩
      obtain ⟨ak, hak⟩ : ∃ ak, ak = a + k := ⟨_, rfl⟩
      have hakb : ak < b := by omega
      have HNXT : Hid (∀ wk M, Below B w wk → (∃ S', Mrg V S' (P.take (k + 1)) ∧ Own wk B 3 1 icell A cp (X ++ (S' ++ (P.drop (k + 1) ++ Z)))) → ∃ (k' : Nat) (S : List Int), 1 ≤ k' ∧ k' ≤ l + 1 ∧ Value.int .i64 ((ak + 1 : Nat) : Int) = .int .i64 ((a + k' : Nat) : Int) ∧ Below B w (wk.drewN M) ∧ Mrg V S (P.take k') ∧ Own (wk.drewN M) B 3 1 icell A cp (X ++ (S ++ (P.drop k' ++ Z)))) := Lib.hid (fun wk M h1 ⟨S', h2, h3⟩ => ⟨k + 1, S', by omega, by omega, by rw [show ak + 1 = a + (k + 1) by omega], below_drewN h1 _, h2, h3.drewN _⟩)
      have hw1 : IntKind.i64.wrap ((ak : Int) + 1) = ((ak + 1 : Nat) : Int) := by rw [IntWalk.i64_in _ (by omega)]; omega
      have hme : b - (ak + 1) < b - ak := by omega
      rw [← hak]
      have HAK := Lib.hid hak
      clear hb' hS ho hx HDONE HSTEP HHERE HENT HEL HLEN hak
      go_wp2_with fail
      go_loopw [9] (fun s w2 => ∃ t : Nat, t ≤ k ∧ s = .int .i64 ((a + t : Nat) : Int) ∧ Below B w w2 ∧ InsI V S x t ∧ Own w2 B 3 1 icell A cp (thru X S (P.drop (k + 1) ++ Z) x t)) (fun s _ => (intOf s).toNat)
      case atStart => exact ⟨k, Nat.le_refl _, by rw [HAK.out], HB.out, HI.out, HO.out⟩
      case round =>
        clear HB HI HO
        rename World => w2
        obtain ⟨t, htk, rfl, hb', hI, ho⟩ := hrel
        have HB := Lib.hid hb'
        by_cases ht0 : t = 0
        · subst ht0
          have HN := Lib.hid (HDN 0 hI (.inl rfl) w2 ho)
          clear hb' hI ho HDN
          go_wp2_with fail
          go_quiet (fail)
          go_wp2_with fail
          go_roundw
          case rel => exact HNXT.out w2 _ HB.out HN.out
          case measure => simp [intOf]; omega
        · obtain ⟨q, rfl⟩ : ∃ q, t = q + 1 := ⟨t - 1, by omega⟩
          have hqS : q < S.length := by omega
          obtain ⟨e2, e3⟩ := HSP x q hqS
          have e1 := HHE x (q + 1) (by omega)
          have hul := HLN x (q + 1) hlt HS.out
          obtain ⟨u, hu⟩ : ∃ u, u = thru X S (P.drop (k + 1) ++ Z) x (q + 1) := ⟨_, rfl⟩
          rw [← hu] at e1 e2 e3 hul ho
          have HDN1 := fun h h1 wk h2 => HDN (q + 1) h h1 wk h2
          rw [← hu] at HDN1
          obtain ⟨aq, haq⟩ : ∃ aq, aq = a + q := ⟨_, rfl⟩
          rw [show a + (q + 1) = aq + 1 by omega] at e1 ⊢
          rw [← haq] at e2 e3
          obtain ⟨y, hy⟩ : ∃ y, y = S.getD q 0 := ⟨_, rfl⟩
          have hely := hel.2.2 q hqS
          rw [← hy] at e2 e3 hely
          have l1 : aq + 1 < u.length := by omega
          have l2 : aq < u.length := by omega
          obtain ⟨g, rfl, hg1, hg2, ca, fa⟩ := ho.cell1 (f := fun x : Int => .int .i64 x) l1
          obtain ⟨g', hgg, _, _, cb, fb⟩ := ho.cell1 (f := fun x : Int => .int .i64 x) l2
          obtain rfl : g = g' := by simpa using hgg
          rw [← getD_at _ _ l1 0, e1] at ca
          rw [← getD_at _ _ l2 0, e2] at cb
          have HCL : Hid (∀ M, Calls Try.prog F (#[.int .i64 x, .int .i64 y] ++ cap) (w2.drewN M) fun e w' => e = .returned (.int .i64 (cmpI (V x) (V y))) ∧ ∃ m, w' = (w2.drewN M).drewN m) :=
            Lib.hid (fun M => HC.out x y (w2.drewN M) (by omega) (by omega) (by omega) (by omega) (HBW.out.trans (below_drewN hb' M)))
          have hneg := cmpI_neg (V x) (V y)
          have hdone : ¬ V x < V y → ∃ S', Mrg V S' (P.take (k + 1)) ∧ Own w2 B 3 1 icell (some ⟨g, 0, none⟩) cp (X ++ (S' ++ (P.drop (k + 1) ++ Z))) := fun h =>
            HDN1 hI (.inr (by rw [Nat.add_sub_cancel, ← hy]; unfold bfV; omega)) w2 ho
          have hswap : V x < V y → InsI V S x q := fun h => ⟨by omega, .inr (by rw [← hy]; exact .inl h)⟩
          have hown2 : ∀ M, Own ((((w2.drewN M).drew.setCell ⟨g, aq + 1, none⟩ (.int .i64 y)).setCell ⟨g, aq, none⟩ (.int .i64 x))) B 3 1 icell (some ⟨g, 0, none⟩) cp (thru X S (P.drop (k + 1) ++ Z) x q) := fun M => by
            have := (((ho.drewN M).drew).put1 (f := fun x : Int => .int .i64 x) (x := y) l1).put1 (f := fun x : Int => .int .i64 x) (k := aq) (x := x) (by rw [List.length_set]; exact l2)
            rw [e3] at this
            exact this
          have hnx : V x < V y → ∀ wk, Below B w wk → Own wk B 3 1 icell (some ⟨g, 0, none⟩) cp (thru X S (P.drop (k + 1) ++ Z) x q) → ∃ t : Nat, t ≤ k ∧ Value.int .i64 (aq : Int) = .int .i64 ((a + t : Nat) : Int) ∧ Below B w wk ∧ InsI V S x t ∧ Own wk B 3 1 icell (some ⟨g, 0, none⟩) cp (thru X S (P.drop (k + 1) ++ Z) x t) := fun h wk h1 h2 =>
            ⟨q, by omega, by rw [haq], h1, hswap h, h2⟩
          have HNX := Lib.hid hnx
          have HDNE := Lib.hid hdone
          have HNG := Lib.hid hneg
          have HOW := Lib.hid hown2
          obtain ⟨z, hz⟩ : ∃ z, z = cmpI (V x) (V y) := ⟨_, rfl⟩
          rw [← hz] at HCL HNG
          have hn1' : aq + 1 < n := by omega
          have hn2' : aq < n := by omega
          have haa : decide ((a : Int) < ((aq + 1 : Nat) : Int)) = true := decide_eq_true (by omega)
          have haa2 : decide ((a : Int) < (aq : Int) + 1) = true := decide_eq_true (by omega)
          have haa3 : (a : Int) < (aq : Int) + 1 := by omega
          have w1 : IntKind.i64.wrap (((aq + 1 : Nat) : Int) - 1) = (aq : Int) := by rw [IntWalk.i64_in _ (by omega)]; omega
          have hne1 : ¬ aq = aq + 1 := by omega
          clear hb' hI ho hu hy hgg e1 e2 e3 hz hneg hdone hswap hnx haq HDN HDN1 hely hel HSP HHE HLN hown2 hul l1 l2
          by_cases hzc : z < 0
          · go_wp2_with fail
            go_quiet (exact quietN (HCL.out _))
            go_wp2_with fail
            go_region
            all_goals
              go_wp2_with fail
              go_roundw
              case rel => exact HNX.out (HNG.out.1 hzc) _ (((below_drewN HB.out _).drew.setCell (p := ⟨g, aq + 1, none⟩) (show B ≤ g by omega) _).setCell (p := ⟨g, aq, none⟩) (show B ≤ g by omega) _) (HOW.out _)
              case measure => simp [intOf]
          · go_wp2_with fail
            go_quiet (exact quietN (HCL.out _))
            go_wp2_with fail
            go_roundw
            case rel => exact HNXT.out w2 _ HB.out (HDNE.out (by have := HNG.out.2; omega))
            case measure => simp [intOf]; omega
    · have HF := Lib.hid (HFIN.out k S wr (by omega) hS ho)
      have hge : ¬ a + k < b := by omega
      clear hS ho hb'
      go_wp2_with fail
      go_end0
      exact ⟨⟨_, rfl⟩, HB.out, HF.out⟩
end Go.Proofs.Ytjkfogkpacmdlaa
