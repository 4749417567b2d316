/- One place is put into a run that stands ahead of it: the program's symMerge, its second case. Conditions: the closure compares by value; the row is the caller's own. -/
import Derived.Test.YtjkfogkpacmdlaaStbC
namespace Go.Proofs.Ytjkfogkpacmdlaa
open Go.RowKit

set_option maxRecDepth 100000 in
set_option maxHeartbeats 1000000 in
theorem sym_right (F : FuncId) (hF : Ent Try.prog F) (cap : Array Value) (V : Int → Int) (A : Option Addr) (N n cp B a m b : Nat) (y : Int) (X L Z : List Int) (w0 w : World) (hB : B ≤ w.heap.size) (hbw : Below B w0 w) (ha : X.length = a) (hm : a + L.length = m) (hb : m + 1 = b) (hL0 : 1 < L.length) (hn : (X ++ (L ++ ([y] ++ Z))).length = n) (hn1 : n ≤ 1000)
    (hL : SrtV V L) (hlt : ∀ x ∈ L, x < y) (hy : 0 ≤ y ∧ y < N) (hLN : ∀ x ∈ L, 0 ≤ x ∧ x < N) (hc : CmpV F cap V N B w0) (ho : Own w B 3 1 icell A cp (X ++ (L ++ ([y] ++ Z)))) :
    Calls Try.prog 66 #[.slice A n cp, .int .i64 a, .int .i64 m, .int .i64 b, .func (.func F) #[] cap] w (Merged V A cp B X (L ++ [y]) Z w) := by
  unfold Ent at hF
  unfold CmpV at hc
  rw [← thru_all] at ho
  have HC := Lib.hid hc
  have HLN : ∀ t, (thru X L Z y t).length = n := fun t => by
    rw [thru_len, ← hn]
    simp only [List.length_append, List.length_singleton]
  obtain ⟨r, hr⟩ : ∃ r, r = L.length := ⟨_, rfl⟩
  rw [← hr] at hm hL0 ho
  have hbn : b ≤ n := by
    have := HLN 0
    rw [thru_len] at this
    omega
  have HST : ∀ t, t < r → (thru X L Z y (t + 1)).getD (a + t) 0 = L.getD t 0 ∧ ((thru X L Z y (t + 1)).set (a + t + 1) (L.getD t 0)).set (a + t) y = thru X L Z y t := fun t ht => ⟨(thru_step (by omega) ha).2.2.1, (thru_step (by omega) ha).2.2.2⟩
  have HHE : ∀ t, t ≤ r → (thru X L Z y t).getD (a + t) 0 = y := fun t ht => thru_here (by omega) ha
  have HAT : ∀ t, t < r → (thru X L Z y r).getD (a + t) 0 = L.getD t 0 := fun t ht => by
    have h1 := get_mid (X ++ L.take t) (L.drop (t + 1) ++ ([y] ++ Z)) L[t] 0 (i := a + t) (by simp only [List.length_append, List.length_take]; omega)
    have e1 : L = L.take t ++ (L[t] :: L.drop (t + 1)) := by rw [← List.drop_eq_getElem_cons, List.take_append_drop]
    rw [hr, thru_all, getD_at L t (by omega)]
    conv => lhs; rw [e1]
    simpa only [List.append_assoc, List.cons_append, List.nil_append] using h1
  have HMG : ∀ p, p ≤ r → (p = 0 ∨ bfV V (L.getD (p - 1) 0) y) → (p = r ∨ bfV V y (L.getD p 0)) → Mrg V (L.take p ++ y :: L.drop p) (L ++ [y]) := fun p hp h1 h2 => by
    have := srt_split hL (by omega) h1 (by rw [← hr]; exact h2)
    refine ⟨ins_srt (by rw [List.take_append_drop]; exact hL) this.1 this.2, ?_⟩
    refine List.perm_middle.trans ?_
    rw [List.take_append_drop]
    exact (List.perm_append_singleton y L).symm
  have HEL : ∀ t, t < r → L.getD t 0 < y ∧ 0 ≤ L.getD t 0 ∧ L.getD t 0 < N := fun t ht => by
    have : L.getD t 0 ∈ L := by rw [getD_at L t (by omega)]; exact List.getElem_mem _
    exact ⟨hlt _ this, hLN _ this⟩
  have HI0 : Hid (HalfI V L y a B A cp (thru X L Z y r) w (.int .i64 ((a : Nat) : Int)) (.int .i64 (m : Int)) w) := Lib.hid ⟨0, r, by simp, by rw [hm], by omega, by omega, .inl rfl, .inl (by omega), Below.refl _ _, ho⟩
  have HBW := Lib.hid hbw
  clear hbw hc hn ho hL hlt hLN ha
  have hw1 : IntKind.i64.wrap ((m : Int) - a) = (r : Int) := by rw [IntWalk.i64_in _ (by omega)]; omega
  have hw2 : IntKind.i64.wrap ((b : Int) - m) = 1 := by rw [IntWalk.i64_in _ (by omega)]; omega
  have hrb : ((r : Int) == 1) = false := by simp; omega
  have HRR := Lib.hid hr
  clear hr
  go_enter Try.func66, Try.ntmps66
  go_wp2_with fail
  go_loopw [14, 15, 16] (fun s10 s11 _ wr => HalfI V L y a B A cp (thru X L Z y r) w s10 s11 wr) (fun s10 s11 _ _ => gapI s10 s11)
  case atStart => exact HI0.out
  case round =>
    clear HI0
    rename World => wr
    obtain ⟨p, q, rfl, rfl, hpq, hqr, hp, hq, hb', ho⟩ := hrel
    have hr := HRR.out
    rw [← hr] at hqr hq
    by_cases hlt : p < q
    · obtain ⟨c, hcd⟩ : ∃ c, c = (p + q) / 2 := ⟨_, rfl⟩
      have hcp : p ≤ c := by omega
      have hcq : c < q := by omega
      have hl := HLN r
      have l1 : a + c < (thru X L Z y r).length := by omega
      have l2 : m < (thru X L Z y r).length := by omega
      obtain ⟨g, rfl, hg1, hg2, ca, fa⟩ := ho.cell1 (f := fun x : Int => .int .i64 x) l1
      obtain ⟨g', hgg, _, _, cb, fb⟩ := ho.cell1 (f := fun x : Int => .int .i64 x) l2
      obtain rfl : g = g' := by simpa using hgg
      rw [← getD_at _ _ l1 0, HAT c (by omega)] at ca
      have hmr := HHE r (Nat.le_refl _)
      rw [hm] at hmr
      rw [← getD_at _ _ l2 0, hmr] at cb
      have han : m < n := by omega
      obtain ⟨x, hx⟩ : ∃ x, x = L.getD c 0 := ⟨_, rfl⟩
      have hel := HEL c (by omega)
      rw [← hx] at ca hel
      have HCL : Hid (∀ M, Calls Try.prog F (#[.int .i64 y, .int .i64 x] ++ cap) (wr.drewN M) fun e w' => e = .returned (.int .i64 (cmpI (V y) (V x))) ∧ ∃ m, w' = (wr.drewN M).drewN m) :=
        Lib.hid (fun M => HC.out y x (wr.drewN M) (by omega) (by omega) (by omega) (by omega) (HBW.out.trans (below_drewN hb' M)))
      have hneg := cmpI_neg (V y) (V x)
      have hyes : ¬ V y < V x → HalfI V L y a B (some ⟨g, 0, none⟩) cp (thru X L Z y r) w (.int .i64 ((a + (c + 1) : Nat) : Int)) (.int .i64 ((a + q : Nat) : Int)) wr := fun h =>
        ⟨c + 1, q, rfl, rfl, by omega, by omega, .inr (by rw [Nat.add_sub_cancel, ← hx]; unfold bfV; omega), by rw [← hr]; exact hq, hb', ho⟩
      have hno : V y < V x → HalfI V L y a B (some ⟨g, 0, none⟩) cp (thru X L Z y r) w (.int .i64 ((a + p : Nat) : Int)) (.int .i64 ((a + c : Nat) : Int)) wr := fun h =>
        ⟨p, c, rfl, rfl, by omega, by omega, hp, .inr (by rw [← hx]; exact .inl h), hb', ho⟩
      have hd0 : (0 : Int) ≤ ((a + p : Nat) : Int) + ((a + q : Nat) : Int) := by omega
      have hdv : (((a + p : Nat) : Int) + ((a + q : Nat) : Int)) / 2 = ((a + c : Nat) : Int) := by omega
      have hsm : ((a + p : Nat) : Int) + ((a + q : Nat) : Int) ≤ 4000 := by omega
      obtain ⟨mp, hmp⟩ : ∃ mp, mp = a + p := ⟨_, rfl⟩
      obtain ⟨mq, hmq⟩ : ∃ mq, mq = a + q := ⟨_, rfl⟩
      obtain ⟨mc, hmc⟩ : ∃ mc, mc = a + c := ⟨_, rfl⟩
      rw [show a + (c + 1) = mc + 1 by omega, ← hmq] at hyes
      rw [← hmp, ← hmc] at hno
      rw [← hmc] at ca fa l1
      rw [← hmp, ← hmq] at hd0 hdv hsm
      rw [← hmc] at hdv
      rw [← hmp, ← hmq]
      have hlt' : mp < mq := by omega
      have hcn : mc < n := by omega
      have hme1 : gapI (.int .i64 ((mc + 1 : Nat) : Int)) (.int .i64 (mq : Int)) < gapI (.int .i64 (mp : Int)) (.int .i64 (mq : Int)) := by simp only [gapI, intOf]; omega
      have hme2 : gapI (.int .i64 (mp : Int)) (.int .i64 (mc : Int)) < gapI (.int .i64 (mp : Int)) (.int .i64 (mq : Int)) := by simp only [gapI, intOf]; omega
      have hdr : ∀ s t M, HalfI V L y a B (some ⟨g, 0, none⟩) cp (thru X L Z y r) w s t wr → HalfI V L y a B (some ⟨g, 0, none⟩) cp (thru X L Z y r) w s t (wr.drewN M) := fun s t M ⟨p, q, h1, h2, h3, h4, h5, h6, h7, h8⟩ => ⟨p, q, h1, h2, h3, h4, h5, h6, below_drewN h7 _, h8.drewN _⟩
      have HNG := Lib.hid hneg
      have HYES := Lib.hid hyes
      have HNO := Lib.hid hno
      have HDR := Lib.hid hdr
      have HM1 := Lib.hid hme1
      have HM2 := Lib.hid hme2
      obtain ⟨z, hz⟩ : ∃ z, z = cmpI (V y) (V x) := ⟨_, rfl⟩
      rw [← hz] at HCL HNG
      have w1 : IntKind.i64.wrap ((mp : Int) + mq) = (mp : Int) + mq := IntWalk.i64_in _ (by omega)
      have w2 : IntKind.u64.wrap ((mp : Int) + mq) = (mp : Int) + mq := IntWalk.u64_in _ (by omega)
      clear hb' ho hp hq hl hgg hx hel hneg hyes hno hdr hme1 hme2 hz hcp hcq hcd hmp hmq hmc hpq hqr hlt hb hmr hr
      by_cases hzc : z < 0
      · go_wp2_with fail
        go_quiet (exact quietN (HCL.out _))
        go_wp2_with fail
        go_roundw
        case rel => exact HDR.out _ _ _ (HNO.out (HNG.out.1 hzc))
        case measure => exact HM2.out
      · have hzf : decide (z < 0) = false := decide_eq_false hzc
        go_wp2_with fail
        go_quiet (exact quietN (HCL.out _))
        go_wp2_with fail
        go_roundw
        case rel => exact HDR.out _ _ _ (HYES.out (by have := HNG.out.2; omega))
        case measure => exact HM1.out
    · obtain rfl : q = p := by omega
      have HM := Lib.hid (HMG q hqr hp hq)
      have HB := Lib.hid hb'
      have HO := Lib.hid ho
      have haq : a + q < n := by omega
      clear hb' ho hp hq HMG HC HAT HEL HBW hr
      go_wp2_with fail
      go_loopw [17] (fun s13 w2 => ∃ t : Nat, q ≤ t ∧ t ≤ r ∧ s13 = .int .i64 ((a + t : Nat) : Int) ∧ Below B w w2 ∧ Own w2 B 3 1 icell A cp (thru X L Z y t)) (fun s13 _ => (intOf s13).toNat)
      case atStart => exact ⟨r, by omega, Nat.le_refl _, by rw [hm], HB.out, HO.out⟩
      case round =>
        clear HB HO
        rename World => w2
        obtain ⟨t, ht, htr, rfl, hb, ho⟩ := hrel
        by_cases htq : q < t
        · obtain ⟨t, rfl⟩ : ∃ t', t = t' + 1 := ⟨t - 1, by omega⟩
          obtain ⟨h1, h2⟩ := HST t (by omega)
          have h0 := HHE (t + 1) (by omega)
          have hl := HLN (t + 1)
          obtain ⟨x, hx⟩ : ∃ x, x = L.getD t 0 := ⟨_, rfl⟩
          rw [← hx] at h1 h2
          obtain ⟨at', hat⟩ : ∃ at', at' = a + t := ⟨_, rfl⟩
          rw [show a + (t + 1) = at' + 1 by omega] at h0 ⊢
          rw [← hat] at h1 h2
          have l1 : at' < (thru X L Z y (t + 1)).length := by omega
          have l2 : at' + 1 < (thru X L Z y (t + 1)).length := by omega
          obtain ⟨g, rfl, hg1, hg2, ca, fa⟩ := ho.cell1 (f := fun x : Int => .int .i64 x) l1
          obtain ⟨g', hgg, _, _, cb, fb⟩ := ho.cell1 (f := fun x : Int => .int .i64 x) l2
          obtain rfl : g = g' := by simpa using hgg
          rw [← getD_at _ _ l1 0, h1] at ca
          rw [← getD_at _ _ l2 0, h0] at cb
          have hnew := (ho.drew.put1 (f := fun x : Int => .int .i64 x) (x := x) l2).put1 (f := fun x : Int => .int .i64 x) (k := at') (x := y) (by rw [List.length_set]; exact l1)
          rw [h2] at hnew
          have hne : a + q < at' + 1 := by omega
          have hnx : ∀ w2, Below B w w2 → Own w2 B 3 1 icell (some ⟨g, 0, none⟩) cp (thru X L Z y t) → ∃ t : Nat, q ≤ t ∧ t ≤ r ∧ Value.int .i64 (at' : Int) = .int .i64 ((a + t : Nat) : Int) ∧ Below B w w2 ∧ Own w2 B 3 1 icell (some ⟨g, 0, none⟩) cp (thru X L Z y t) := fun w2 h1 h2 =>
            ⟨t, by omega, by omega, by rw [hat], h1, h2⟩
          have HN := Lib.hid hnew
          have HNX := Lib.hid hnx
          have HB := Lib.hid hb
          have hatn : at' + 1 < n := by omega
          have hne1 : ¬ at' = at' + 1 := by omega
          have w3 : IntKind.i64.wrap (((at' + 1 : Nat) : Int) - 1) = (at' : Int) := by rw [IntWalk.i64_in _ (by omega)]; omega
          clear h0 h1 h2 hl l1 l2 hgg hnew hnx hb ho hat hx HST HHE HLN HM
          go_wp2_with fail
          go_region
          all_goals
            go_wp2_with fail
            go_roundw
            case rel => exact HNX.out _ (((HB.out.drew).setCell (p := ⟨g, at' + 1, none⟩) hg1 _).setCell (p := ⟨g, at', none⟩) hg1 _) HN.out
            case measure => simp [intOf]
        · obtain rfl : t = q := by omega
          go_wp2_with fail
          go_end0
          exact ⟨⟨_, rfl⟩, hb, _, HM.out, by simpa [thru] using ho⟩
end Go.Proofs.Ytjkfogkpacmdlaa
