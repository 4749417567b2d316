/- One place is put into a run that stands behind it: the program's symMerge, its first case. Conditions: the closure compares by value; the row is the caller's own. -/
import Derived.Test.YtjkfogkpacmdlaaStbB
import Derived.Test.YtjkfogkpacmdlaaSort
namespace Go.Proofs.Ytjkfogkpacmdlaa
open Go.RowKit

theorem u_half (x : Int) (k : IntKind) (h : 0 ≤ x) : Op.shift .shr .u64 x k 1 = pure (.int .u64 (x / 2)) := by
  rw [shift_shr_any _ _ _ _ (by omega)]
  congr 2
/-- A closure that compares the values of two places. -/
def CmpV (F : FuncId) (cap : Array Value) (V : Int → Int) (N B : Nat) (w : World) : Prop :=
  ∀ (a b : Int) (wx : World), 0 ≤ a → a < N → 0 ≤ b → b < N → Below B w wx → Calls Try.prog F (#[.int .i64 a, .int .i64 b] ++ cap) wx fun e w' => e = .returned (.int .i64 (cmpI (V a) (V b))) ∧ ∃ m, w' = wx.drewN m
/-- What the merge of two runs makes. -/
def Merged (V : Int → Int) (A : Option Addr) (cp B : Nat) (X T Z : List Int) (w : World) (e : Ending) (w' : World) : Prop := (∃ v, e = .returned v) ∧ Below B w w' ∧ ∃ S, Mrg V S T ∧ Own w' B 3 1 icell A cp (X ++ (S ++ Z))

/-- One on its way through a run. -/
def thru (X R Z : List Int) (x : Int) (t : Nat) : List Int := X ++ (R.take t ++ x :: (R.drop t ++ Z))
theorem thru_zero (X R Z : List Int) (x : Int) : thru X R Z x 0 = X ++ ([x] ++ (R ++ Z)) := by simp [thru]
theorem thru_all (X R Z : List Int) (x : Int) : thru X R Z x R.length = X ++ (R ++ ([x] ++ Z)) := by simp [thru]
theorem thru_len (X R Z : List Int) (x : Int) (t : Nat) : (thru X R Z x t).length = X.length + (R.length + (1 + Z.length)) := by
  unfold thru
  simp only [List.length_append, List.length_take, List.length_cons, List.length_drop]
  omega
theorem thru_here {X R Z : List Int} {x : Int} {t a : Nat} (ht : t ≤ R.length) (ha : X.length = a) : (thru X R Z x t).getD (a + t) 0 = x := by
  have := get_mid (X ++ R.take t) (R.drop t ++ Z) x 0 (i := a + t) (by simp only [List.length_append, List.length_take]; omega)
  unfold thru
  simpa only [List.append_assoc] using this
theorem thru_step {X R Z : List Int} {x : Int} {t a : Nat} (ht : t < R.length) (ha : X.length = a) :
    (thru X R Z x t).getD (a + t + 1) 0 = R.getD t 0 ∧ ((thru X R Z x t).set (a + t) (R.getD t 0)).set (a + t + 1) x = thru X R Z x (t + 1)
      ∧ (thru X R Z x (t + 1)).getD (a + t) 0 = R.getD t 0 ∧ ((thru X R Z x (t + 1)).set (a + t + 1) (R.getD t 0)).set (a + t) x = thru X R Z x t := by
  have e1 : R.drop t = R[t] :: R.drop (t + 1) := List.drop_eq_getElem_cons (by omega)
  have e3 : R.take (t + 1) = R.take t ++ [R[t]] := List.take_succ_eq_append_getElem (by omega)
  have e : thru X R Z x t = (X ++ R.take t) ++ x :: ([] ++ R[t] :: (R.drop (t + 1) ++ Z)) := by
    unfold thru
    rw [e1]
    simp only [List.append_assoc, List.cons_append, List.nil_append]
  have e' : thru X R Z x (t + 1) = (X ++ R.take t) ++ R[t] :: ([] ++ x :: (R.drop (t + 1) ++ Z)) := by
    unfold thru
    rw [e3]
    simp only [List.append_assoc, List.cons_append, List.nil_append]
  have l1 : (X ++ R.take t).length = a + t := by simp only [List.length_append, List.length_take]; omega
  rw [getD_at R t ht]
  refine ⟨?_, ?_, ?_, ?_⟩
  · rw [e]; exact get_mid2 _ _ _ _ _ _ (by simp only [List.length_nil]; omega)
  · rw [e, e', swap_at _ _ _ _ _ l1 (by simp)]
  · rw [e']; exact get_mid _ _ _ _ l1
  · rw [e', e, swap_at' _ _ _ _ _ l1 (by simp)]

/-- What a search of halves for `x` in `R` has found so far. -/
def HalfI (V : Int → Int) (R : List Int) (x : Int) (m B : Nat) (A : Option Addr) (cp : Nat) (u : List Int) (w : World) (s10 s11 : Value) (wr : World) : Prop :=
  ∃ p q : Nat, s10 = .int .i64 ((m + p : Nat) : Int) ∧ s11 = .int .i64 ((m + q : Nat) : Int) ∧ p ≤ q ∧ q ≤ R.length ∧ (p = 0 ∨ bfV V (R.getD (p - 1) 0) x) ∧ (q = R.length ∨ bfV V x (R.getD q 0)) ∧ Below B w wr ∧ Own wr B 3 1 icell A cp u
def gapI (a b : Value) : Nat := (intOf b).toNat - (intOf a).toNat

set_option maxRecDepth 100000 in
set_option maxHeartbeats 1000000 in
theorem sym_left (F : FuncId) (hF : Ent Try.prog F) (cap : Array Value) (V : Int → Int) (A : Option Addr) (N n cp B a m b : Nat) (x : Int) (X R Z : List Int) (w0 w : World) (hB : B ≤ w.heap.size) (hbw : Below B w0 w) (ha : X.length = a) (hm : a + 1 = m) (hb : m + R.length = b) (hR0 : 0 < R.length) (hn : (X ++ ([x] ++ (R ++ Z))).length = n) (hn1 : n ≤ 1000)
    (hR : SrtV V R) (hlt : ∀ y ∈ R, x < y) (hx : 0 ≤ x ∧ x < N) (hRN : ∀ y ∈ R, 0 ≤ y ∧ y < N) (hc : CmpV F cap V N B w0) (ho : Own w B 3 1 icell A cp (X ++ ([x] ++ (R ++ Z)))) :
    Calls Try.prog 66 #[.slice A n cp, .int .i64 a, .int .i64 m, .int .i64 b, .func (.func F) #[] cap] w (Merged V A cp B X ([x] ++ R) Z w) := by
  unfold Ent at hF
  unfold CmpV at hc
  rw [← thru_zero] at ho
  have HC := Lib.hid hc
  have HLN : ∀ t, (thru X R Z x t).length = n := fun t => by
    rw [thru_len, ← hn]
    simp only [List.length_append, List.length_singleton]
    omega
  obtain ⟨r, hr⟩ : ∃ r, r = R.length := ⟨_, rfl⟩
  rw [← hr] at hb hR0
  have hbn : b ≤ n := by
    have := HLN 0
    rw [thru_len] at this
    omega
  have HST : ∀ t, t < r → (thru X R Z x t).getD (a + t + 1) 0 = R.getD t 0 ∧ ((thru X R Z x t).set (a + t) (R.getD t 0)).set (a + t + 1) x = thru X R Z x (t + 1) := fun t ht => ⟨(thru_step (by omega) ha).1, (thru_step (by omega) ha).2.1⟩
  have HHE : ∀ t, t ≤ r → (thru X R Z x t).getD (a + t) 0 = x := fun t ht => thru_here (by omega) ha
  have HAT : ∀ t, t < r → (thru X R Z x 0).getD (m + t) 0 = R.getD t 0 := fun t ht => by
    have h1 := get_mid (X ++ x :: R.take t) (R.drop (t + 1) ++ Z) R[t] 0 (i := m + t) (by simp only [List.length_append, List.length_cons, List.length_take]; omega)
    have e1 : R = R.take t ++ (R[t] :: R.drop (t + 1)) := by rw [← List.drop_eq_getElem_cons, List.take_append_drop]
    rw [thru_zero, getD_at R t (by omega)]
    conv => lhs; rw [e1]
    simpa only [List.append_assoc, List.cons_append, List.nil_append] using h1
  have HMG : ∀ p, p ≤ r → (p = 0 ∨ bfV V (R.getD (p - 1) 0) x) → (p = r ∨ bfV V x (R.getD p 0)) → Mrg V (R.take p ++ x :: R.drop p) ([x] ++ R) := fun p hp h1 h2 => by
    have := srt_split hR (by omega) h1 (by rw [← hr]; exact h2)
    refine ⟨ins_srt (by rw [List.take_append_drop]; exact hR) this.1 this.2, ?_⟩
    refine List.perm_middle.trans ?_
    rw [List.take_append_drop]
    exact List.Perm.refl _
  have HEL : ∀ t, t < r → x < R.getD t 0 ∧ 0 ≤ R.getD t 0 ∧ R.getD t 0 < N := fun t ht => by
    have : R.getD t 0 ∈ R := by rw [getD_at R t (by omega)]; exact List.getElem_mem _
    exact ⟨hlt _ this, hRN _ this⟩
  have HI0 : Hid (HalfI V R x m B A cp (thru X R Z x 0) w (.int .i64 ((m : Nat) : Int)) (.int .i64 (b : Int)) w) := Lib.hid ⟨0, r, by simp, by rw [hb], by omega, by omega, .inl rfl, .inl (by omega), Below.refl _ _, ho⟩
  have HBW := Lib.hid hbw
  clear hbw hc hn ho hR hlt hRN ha
  have hw1 : IntKind.i64.wrap ((m : Int) - a) = 1 := by rw [IntWalk.i64_in _ (by omega)]; omega
  go_enter Try.func66, Try.ntmps66
  go_wp2_with fail
  go_loopw [10, 11, 12] (fun s10 s11 _ wr => HalfI V R x m B A cp (thru X R Z x 0) w s10 s11 wr) (fun s10 s11 _ _ => gapI s10 s11)
  case atStart => exact HI0.out
  case round =>
    clear HI0
    rename World => wr
    obtain ⟨p, q, rfl, rfl, hpq, hqr, hp, hq, hb', ho⟩ := hrel
    rw [← hr] at hqr hq
    by_cases hlt : p < q
    · obtain ⟨c, hcd⟩ : ∃ c, c = (p + q) / 2 := ⟨_, rfl⟩
      have hcp : p ≤ c := by omega
      have hcq : c < q := by omega
      have hl := HLN 0
      have l1 : m + c < (thru X R Z x 0).length := by omega
      have l2 : a < (thru X R Z x 0).length := by omega
      obtain ⟨g, rfl, hg1, hg2, ca, fa⟩ := ho.cell1 (f := fun x : Int => .int .i64 x) l1
      obtain ⟨g', hgg, _, _, cb, fb⟩ := ho.cell1 (f := fun x : Int => .int .i64 x) l2
      obtain rfl : g = g' := by simpa using hgg
      rw [← getD_at _ _ l1 0, HAT c (by omega)] at ca
      rw [← getD_at _ _ l2 0, show (thru X R Z x 0).getD a 0 = x from HHE 0 (by omega)] at cb
      have han : a < n := by omega
      obtain ⟨y, hy⟩ : ∃ y, y = R.getD c 0 := ⟨_, rfl⟩
      have hel := HEL c (by omega)
      rw [← hy] at ca hel
      have HCL : Hid (∀ M, Calls Try.prog F (#[.int .i64 y, .int .i64 x] ++ cap) (wr.drewN M) fun e w' => e = .returned (.int .i64 (cmpI (V y) (V x))) ∧ ∃ m, w' = (wr.drewN M).drewN m) :=
        Lib.hid (fun M => HC.out y x (wr.drewN M) (by omega) (by omega) (by omega) (by omega) (HBW.out.trans (below_drewN hb' M)))
      have hneg := cmpI_neg (V y) (V x)
      have hyes : V y < V x → HalfI V R x m B (some ⟨g, 0, none⟩) cp (thru X R Z x 0) w (.int .i64 ((m + (c + 1) : Nat) : Int)) (.int .i64 ((m + q : Nat) : Int)) wr := fun h =>
        ⟨c + 1, q, rfl, rfl, by omega, by omega, .inr (by rw [Nat.add_sub_cancel, ← hy]; exact .inl h), by rw [← hr]; exact hq, hb', ho⟩
      have hno : ¬ V y < V x → HalfI V R x m B (some ⟨g, 0, none⟩) cp (thru X R Z x 0) w (.int .i64 ((m + p : Nat) : Int)) (.int .i64 ((m + c : Nat) : Int)) wr := fun h =>
        ⟨p, c, rfl, rfl, by omega, by omega, hp, .inr (by rw [← hy]; unfold bfV; omega), hb', ho⟩
      have hd0 : (0 : Int) ≤ ((m + p : Nat) : Int) + ((m + q : Nat) : Int) := by omega
      have hdv : (((m + p : Nat) : Int) + ((m + q : Nat) : Int)) / 2 = ((m + c : Nat) : Int) := by omega
      have hsm : ((m + p : Nat) : Int) + ((m + q : Nat) : Int) ≤ 4000 := by omega
      obtain ⟨mp, hmp⟩ : ∃ mp, mp = m + p := ⟨_, rfl⟩
      obtain ⟨mq, hmq⟩ : ∃ mq, mq = m + q := ⟨_, rfl⟩
      obtain ⟨mc, hmc⟩ : ∃ mc, mc = m + c := ⟨_, rfl⟩
      rw [show m + (c + 1) = mc + 1 by omega, ← hmq] at hyes
      rw [← hmp, ← hmc] at hno
      rw [← hmc] at ca fa l1
      rw [← hmp, ← hmq] at hd0 hdv hsm
      rw [← hmc] at hdv
      rw [← hmp, ← hmq]
      have hlt' : mp < mq := by omega
      have hcn : mc < n := by omega
      have hme1 : gapI (.int .i64 ((mc + 1 : Nat) : Int)) (.int .i64 (mq : Int)) < gapI (.int .i64 (mp : Int)) (.int .i64 (mq : Int)) := by simp only [gapI, intOf]; omega
      have hme2 : gapI (.int .i64 (mp : Int)) (.int .i64 (mc : Int)) < gapI (.int .i64 (mp : Int)) (.int .i64 (mq : Int)) := by simp only [gapI, intOf]; omega
      have hdr : ∀ s t M, HalfI V R x m B (some ⟨g, 0, none⟩) cp (thru X R Z x 0) w s t wr → HalfI V R x m B (some ⟨g, 0, none⟩) cp (thru X R Z x 0) w s t (wr.drewN M) := fun s t M ⟨p, q, h1, h2, h3, h4, h5, h6, h7, h8⟩ => ⟨p, q, h1, h2, h3, h4, h5, h6, below_drewN h7 _, h8.drewN _⟩
      have HNG := Lib.hid hneg
      have HYES := Lib.hid hyes
      have HNO := Lib.hid hno
      have HDR := Lib.hid hdr
      have HM1 := Lib.hid hme1
      have HM2 := Lib.hid hme2
      obtain ⟨z, hz⟩ : ∃ z, z = cmpI (V y) (V x) := ⟨_, rfl⟩
      rw [← hz] at HCL HNG
      have w1 : IntKind.i64.wrap ((mp : Int) + mq) = (mp : Int) + mq := IntWalk.i64_in _ (by omega)
      have w2 : IntKind.u64.wrap ((mp : Int) + mq) = (mp : Int) + mq := IntWalk.u64_in _ (by omega)
      clear hb' ho hp hq hl hgg hy hel hneg hyes hno hdr hme1 hme2 hz hcp hcq hcd hmp hmq hmc hpq hqr hlt hb
      by_cases hzc : z < 0
      · go_wp2_with fail
        go_quiet (exact quietN (HCL.out _))
        go_wp2_with fail
        go_roundw
        case rel => exact HDR.out _ _ _ (HYES.out (HNG.out.1 hzc))
        case measure => exact HM1.out
      · go_wp2_with fail
        go_quiet (exact quietN (HCL.out _))
        go_wp2_with fail
        go_roundw
        case rel => exact HDR.out _ _ _ (HNO.out (by have := HNG.out.2; omega))
        case measure => exact HM2.out
    · obtain rfl : q = p := by omega
      have HM := Lib.hid (HMG q hqr hp hq)
      have HB := Lib.hid hb'
      have HO := Lib.hid ho
      have haq : a + q < n := by omega
      have w1 : IntKind.i64.wrap (((m + q : Nat) : Int) - 1) = ((a + q : Nat) : Int) := by rw [IntWalk.i64_in _ (by omega)]; omega
      clear hb' ho hp hq HMG HC HAT HEL HBW
      go_wp2_with fail
      go_loopw [13] (fun s13 w2 => ∃ t : Nat, t ≤ q ∧ s13 = .int .i64 ((a + t : Nat) : Int) ∧ Below B w w2 ∧ Own w2 B 3 1 icell A cp (thru X R Z x t)) (fun s13 _ => a + q - (intOf s13).toNat)
      case atStart => exact ⟨0, by omega, rfl, HB.out, HO.out⟩
      case round =>
        clear HB HO
        rename World => w2
        obtain ⟨t, ht, rfl, hb, ho⟩ := hrel
        by_cases htq : t < q
        · obtain ⟨h1, h2⟩ := HST t (by omega)
          have h0 := HHE t (by omega)
          have hl := HLN t
          obtain ⟨y, hy⟩ : ∃ y, y = R.getD t 0 := ⟨_, rfl⟩
          rw [← hy] at h1 h2
          obtain ⟨at', hat⟩ : ∃ at', at' = a + t := ⟨_, rfl⟩
          rw [← hat] at h0 h1 h2 ⊢
          have l1 : at' < (thru X R Z x t).length := by omega
          have l2 : at' + 1 < (thru X R Z x t).length := by omega
          obtain ⟨g, rfl, hg1, hg2, ca, fa⟩ := ho.cell1 (f := fun x : Int => .int .i64 x) l1
          obtain ⟨g', hgg, _, _, cb, fb⟩ := ho.cell1 (f := fun x : Int => .int .i64 x) l2
          obtain rfl : g = g' := by simpa using hgg
          rw [← getD_at _ _ l1 0, h0] at ca
          rw [← getD_at _ _ l2 0, h1] at cb
          have hnew := (ho.drew.put1 (f := fun x : Int => .int .i64 x) (x := y) l1).put1 (f := fun x : Int => .int .i64 x) (k := at' + 1) (x := x) (by rw [List.length_set]; exact l2)
          rw [h2] at hnew
          have hne : at' < a + q := by omega
          have hme : a + q - (at' + 1) < a + q - at' := by omega
          have hnx : ∀ w2, Below B w w2 → Own w2 B 3 1 icell (some ⟨g, 0, none⟩) cp (thru X R Z x (t + 1)) → ∃ t : Nat, t ≤ q ∧ Value.int .i64 ((at' + 1 : Nat) : Int) = .int .i64 ((a + t : Nat) : Int) ∧ Below B w w2 ∧ Own w2 B 3 1 icell (some ⟨g, 0, none⟩) cp (thru X R Z x t) := fun w2 h1 h2 =>
            ⟨t + 1, by omega, by rw [show at' + 1 = a + (t + 1) by omega], h1, h2⟩
          have HN := Lib.hid hnew
          have HNX := Lib.hid hnx
          have HB := Lib.hid hb
          have hatn : at' + 1 < n := by omega
          have hne1 : ¬ at' = at' + 1 := by omega
          have w3 : IntKind.i64.wrap ((at' : Int) + 1) = ((at' + 1 : Nat) : Int) := by rw [IntWalk.i64_in _ (by omega)]; omega
          clear h0 h1 h2 hl l1 l2 hgg hnew hnx hb ho hat hy HST HHE HLN HM
          go_wp2_with fail
          go_region
          all_goals
            go_wp2_with fail
            go_roundw
            case rel => exact HNX.out _ (((HB.out.drew).setCell (p := ⟨g, at', none⟩) hg1 _).setCell (p := ⟨g, at' + 1, none⟩) hg1 _) HN.out
            case measure => simp [intOf]; omega
        · obtain rfl : t = q := by omega
          go_wp2_with fail
          go_end0
          exact ⟨⟨_, rfl⟩, hb, _, HM.out, by simpa [thru] using ho⟩
end Go.Proofs.Ytjkfogkpacmdlaa
