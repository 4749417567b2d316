/- Players that have given scores, the first of all: the program's search. Conditions: the scores read as a list. -/
import Derived.Test.YtaldkafibemhnaaMakeR
import Derived.Laws.EntriesVeiled
namespace Go.Proofs.Ytaldkafibemhnaa
open Go.RowKit
attribute [local go_sem ↓] w_and w_or w_xor w_andNot w_and1 w_and255 w_xor1 w_or0 w_shl w_shl1 w_shr w_sub w_add w_sub1 w_add1
attribute [local go_sem] w_eq0 w_ne0 w_eq1 w_eq w_ne

/-- What the first j players have settled for player i. -/
def nowTo (ts : List (BitVec 32)) (i : Nat) : Nat → BitVec 32
  | 0 => w0
  | j + 1 => wOr (nowTo ts i j) (wShl (wXor (wAnd (wShr (lw ts j) i) w1) w1) j)
theorem now_bit (ts : List (BitVec 32)) (i : Nat) (hi : i < 32) : ∀ (j m : Nat), j ≤ 32 → (nowTo ts i j).getLsbD m = (decide (m < j) && !(lw ts m).getLsbD i)
  | 0, m, _ => by simp [nowTo, b_0]
  | j + 1, m, hj => by
    rw [nowTo, b_or, now_bit ts i hi j m (by omega), b_shl, b_xor, b_and, b_shr, b_1]
    by_cases h : m < j
    · simp [h, show m < j + 1 by omega]
    · by_cases h2 : m = j
      · subst h2
        simp; omega
      · simp [show ¬ m < j + 1 by omega, h]
        omega
theorem now_mask (ts : List (BitVec 32)) (i : Nat) (hi : i < 32) : wAnd (nowTo ts i i) (maskW i) = nowTo ts i i := by
  apply w_ext
  intro m _
  rw [b_and, b_mask hi, now_bit ts i hi i m (by omega)]
  by_cases h : m < i <;> simp [h]
theorem now_lt (ts : List (BitVec 32)) (i : Nat) (hi : i < 32) : (nowTo ts i i).toNat < 2 ^ i := by
  have h := congrArg BitVec.toNat (now_mask ts i hi)
  unfold wAnd at h
  rw [BitVec.toNat_and] at h
  have h2 := Nat.and_le_right (n := (nowTo ts i i).toNat) (m := (maskW i).toNat)
  rw [h, toNat_mask hi] at h2
  have : 0 < 2 ^ i := Nat.two_pow_pos i
  omega
theorem mask_and_iff (ts : List (BitVec 32)) (x : BitVec 32) (i : Nat) (hi : i < 32) : (wAnd x (maskW i) == nowTo ts i i) = (List.range i).all fun j => bitB x j != bitB (lw ts j) i := by
  rw [Bool.eq_iff_iff, beq_iff_eq, List.all_eq_true]
  constructor
  · intro h j hj
    have hj := List.mem_range.1 hj
    have := congrArg (fun v => v.getLsbD j) h
    simp only [b_and, b_mask hi, now_bit ts i hi i j (by omega), hj, decide_true, Bool.and_true, Bool.true_and] at this
    rw [bitB_nat, bitB_nat, this]
    cases (lw ts j).getLsbD i <;> rfl
  · intro h
    apply w_ext
    intro m _
    rw [b_and, b_mask hi, now_bit ts i hi i m (by omega)]
    by_cases hm : m < i
    · have := h m (List.mem_range.2 hm)
      rw [bitB_nat, bitB_nat] at this
      simp only [hm, decide_true, Bool.and_true, Bool.true_and]
      revert this
      cases x.getLsbD m <;> cases (lw ts m).getLsbD i <;> simp
    · simp [hm]
theorem shr_and1_eq0 (x : BitVec 32) (i : Nat) : (wAnd (wShr x i) w1 == w0) = !bitB x i := by
  rw [bitB_nat, Bool.eq_iff_iff, beq_iff_eq]
  constructor
  · intro h
    have := congrArg (fun v => v.getLsbD 0) h
    simp only [b_and, b_shr, b_1, b_0, Nat.add_zero, decide_true, Bool.and_true] at this
    rw [this]
    rfl
  · intro h
    apply w_ext
    intro m _
    rw [b_and, b_shr, b_1, b_0]
    by_cases hm : m = 0
    · subst hm
      simpa using h
    · simp [hm]
theorem mk_ok (sc : List Int) (ts : List (BitVec 32)) (x : BitVec 32) (i : Nat) (hi : i < 32) (hl : i ≤ ts.length) :
    okTo sc (ts.take i) x i = ((wAnd x (maskW i) == nowTo ts i i) && (wAnd (wShr x i) w1 == w0) && ((pop x : Int) == sc.getD i 0)) := by
  have hlen : (ts.take i).length = i := by simp; omega
  unfold okTo
  rw [hlen, mask_and_iff ts x i hi, shr_and1_eq0]
  have : ((List.range i).all fun j => bitB x j != bitB (lw (ts.take i) j) i) = (List.range i).all fun j => bitB x j != bitB (lw ts j) i := by
    rw [Bool.eq_iff_iff, List.all_eq_true, List.all_eq_true]
    have e : ∀ j ∈ List.range i, lw (ts.take i) j = lw ts j := by
      intro j hj
      have hj := List.mem_range.1 hj
      unfold lw
      simp [List.getD_eq_getElem?_getD, List.getElem?_take, hj]
    exact ⟨fun h j hj => by rw [← e j hj]; exact h j hj, fun h j hj => by rw [e j hj]; exact h j hj⟩
  rw [this]
  cases (List.range i).all fun j => bitB x j != bitB (lw ts j) i <;> cases ((pop x : Int) == sc.getD i 0) <;> cases bitB x i <;> rfl
theorem mk_low (sc : List Int) (ts : List (BitVec 32)) (k i : Nat) (hi : i < 32) (hl : i ≤ ts.length) (hk : k < (nowTo ts i i).toNat) : okTo sc (ts.take i) (nw k) i = false := by
  rw [mk_ok sc ts _ i hi hl]
  have : (wAnd (nw k) (maskW i) == nowTo ts i i) = false := by
    rw [beq_eq_false_iff_ne]
    intro h
    have h1 := congrArg BitVec.toNat h
    unfold wAnd at h1
    rw [BitVec.toNat_and] at h1
    have h2 := Nat.and_le_left (n := (nw k).toNat) (m := (maskW i).toNat)
    rw [h1] at h2
    unfold nw at h2
    rw [BitVec.toNat_ofNat] at h2
    have := Nat.mod_le k (2 ^ 32)
    omega
  rw [this]
  rfl
theorem firstW_low {β : Type} {g : Nat → Option β} : ∀ (m : Nat), (∀ k, k < m → g k = none) → firstW m g = none
  | 0, _ => rfl
  | m + 1, h => by rw [firstW_succ, firstW_low m (fun k hk => h k (by omega)), h m (by omega)]; rfl
theorem nw_toNat (x : BitVec 32) : nw x.toNat = x := by
  unfold nw
  exact BitVec.ofNat_toNat 32 x |>.trans (by simp)

abbrev onCaps (S T : Nat) : Array Value := #[.pointer (some ⟨S + 1, 0, none⟩), .pointer (some ⟨T, 0, none⟩), .pointer (some ⟨S, 0, none⟩), .pointer (some ⟨T + 1, 0, none⟩)]
structure MakeSt (w : World) (S T n : Nat) (A : Option Addr) (c : Nat) (sc : List Int) (ts : List (BitVec 32)) : Prop where
  b0 : Blk w S 44 #[.slice A n c]
  b1 : Blk w (S + 1) 3 #[.int .i64 n]
  hT : S + 2 < T
  b3 : Blk w T 33 #[.slice (some ⟨S + 2, 0, none⟩) n n]
  b4 : Blk w (T + 1) 68 #[.func (.func 57) #[] (onCaps S T)]
  own : Own w (S + 2) 66 1 pcell (some ⟨S + 2, 0, none⟩) n ts
  len : ts.length = n
  els : Els w S 1 scell A sc
theorem MakeSt.drewN {w : World} {S T n : Nat} {A : Option Addr} {c : Nat} {sc : List Int} {ts : List (BitVec 32)} (h : MakeSt w S T n A c sc ts) (m : Nat) : MakeSt (w.drewN m) S T n A c sc ts := ⟨h.b0, h.b1, h.hT, h.b3, h.b4, h.own, h.len, h.els⟩
theorem MakeSt.put {w : World} {S T n : Nat} {A : Option Addr} {c : Nat} {sc : List Int} {ts : List (BitVec 32)} (h : MakeSt w S T n A c sc ts) (i : Nat) (hi : i < n) (x : BitVec 32) : MakeSt (w.setCell ⟨S + 2, i, none⟩ (.int .u32 (wN x))) S T n A c sc (ts.set i x) :=
  ⟨h.b0.far (by simp) _, h.b1.far (by simp) _, h.hT, h.b3.far (show T ≠ S + 2 by have := h.hT; omega) _, h.b4.far (show T + 1 ≠ S + 2 by have := h.hT; omega) _, h.own.put1 (f := fun x => .int .u32 (wN x)) (by rw [h.len]; exact hi), by rw [List.length_set, h.len],
    h.els.below ((Below.refl _ _).setCell (show S ≤ S + 2 by omega) _)⟩

set_option maxRecDepth 100000 in
set_option maxHeartbeats 1000000 in
theorem make_on (S T n : Nat) (A : Option Addr) (c : Nat) (sc : List Int) (hsc : sc.length = n) (hn : n ≤ 6) : ∀ (f i : Nat) (ts : List (BitVec 32)) (w : World), i + f = n → MakeSt w S T n A c sc ts →
    Calls Try.prog 57 #[.int .i64 i, .pointer (some ⟨S + 1, 0, none⟩), .pointer (some ⟨T, 0, none⟩), .pointer (some ⟨S, 0, none⟩), .pointer (some ⟨T + 1, 0, none⟩)] w fun e w' =>
      e = .returned (.bool (solve sc f (ts.take i)).isSome) ∧ Below S w w' ∧ ∃ ts', MakeSt w' S T n A c sc ts' ∧ ts'.take i = ts.take i ∧ ∀ u, solve sc f (ts.take i) = some u → ts' = u := by
  intro f
  induction f with
  | zero =>
    intro i ts w hf hst
    obtain rfl : i = n := by omega
    have c1 := hst.b1.cell 0
    have HST := Lib.hid hst
    have htt : ts.take i = ts := List.take_of_length_le (by rw [hst.len]; omega)
    have HT := Lib.hid htt
    clear hst htt
    have h1 : ((i : Int) == (i : Int)) = true := by simp
    go_enter Try.func57, Try.ntmps57
    go_wp2_with fail
    go_ret
    exact ⟨rfl, Below.refl _ _, ts, HST.out, rfl, fun u hu => by rw [HT.out] at hu; injection hu⟩
  | succ f ih =>
    intro i ts w hf hst
    have HIH := Lib.hid ih
    have hin : i < n := by omega
    have hne : ((i : Int) == (n : Int)) = false := by simp; omega
    have HTL := Lib.hid hst.len
    have c1 := hst.b1.cell 0
    have c3 := hst.b3.cell 0
    have HST := Lib.hid hst
    clear hst ih
    go_enter Try.func57, Try.ntmps57
    go_wp2_with fail
    go_loop [18, 8] (fun j v => ∃ k : Nat, k ≤ i ∧ j = .int .i64 k ∧ v = .int .u32 (wN (nowTo ts i k))) (fun j _ => i - (intOf j).toNat)
    case atStart => exact ⟨0, by omega, rfl, rfl⟩
    case round =>
      obtain ⟨k, hk, rfl, rfl⟩ := hrel
      by_cases hlt : k < i
      · have hkl : k < ts.length := by rw [HTL.out]; omega
        obtain ⟨g, hg, _, _, g0, _⟩ := HST.out.own.cell1 (f := fun x => .int .u32 (wN x)) hkl
        obtain rfl : S + 2 = g := by simpa using hg
        have hlw := lw_at ts k hkl
        rw [← hlw] at g0
        have HN : Hid (nowTo ts i (k + 1) = wOr (nowTo ts i k) (wShl (wXor (wAnd (wShr (lw ts k) i) w1) w1) k)) := rfl
        generalize lw ts k = y at g0 HN
        clear hlw hg
        go_wp2_with fail
        go_round
        case rel => exact ⟨k + 1, by omega, by go_num, by rw [HN.out]⟩
        case measure => simp [intOf]; omega
      · obtain rfl : k = i := by omega
        obtain ⟨nowW, hnow⟩ : ∃ x, x = nowTo ts k k := ⟨_, rfl⟩
        have hlow := fun q hq => mk_low sc ts q k (by omega) (by rw [HTL.out]; omega) (hnow ▸ hq : q < (nowTo ts k k).toNat)
        have hnl : nowW.toNat < 2 ^ k := by rw [hnow]; exact now_lt ts k (by omega)
        have hpk : 2 ^ k ≤ 2 ^ n := Nat.pow_le_pow_right (by omega) (by omega)
        have hp64 : 2 ^ n ≤ 64 := by
          have := Nat.pow_le_pow_right (show 0 < 2 by omega) hn
          simpa using this
        obtain ⟨N, hN⟩ : ∃ N, N = 2 ^ n := ⟨_, rfl⟩
        have hpw : wN (wShl w1 n) = (2 ^ n : Nat) := wN_pow (by omega)
        have HS : Hid (solve sc (f + 1) (ts.take k) = firstW N fun q => if okTo sc (ts.take k) (nw q) k then solve sc f (ts.take k ++ [nw q]) else none) := by
          show solve sc (f + 1) (ts.take k) = _
          have hlk : (ts.take k).length = k := by simp [HTL.out]; omega
          rw [solve, hsc, hlk, hN]
        rw [← hN] at hpk hp64 hpw
        have hnN : nowW.toNat < N := by omega
        have hno0 : (firstW nowW.toNat fun q => if okTo sc (ts.take k) (nw q) k then solve sc f (ts.take k ++ [nw q]) else none) = none :=
          firstW_low _ fun q hq => by rw [hlow q hq]; rfl
        have HN0 := Lib.hid hno0
        have HNOW := Lib.hid hnow
        have HPW := Lib.hid hpw
        rw [← hnow]
        clear hno0 hlow hnow hpw hN hpk hnl
        go_wp2_with fail
        go_loopw [10] (fun v wr => ∃ (q : Nat) (ts1 : List (BitVec 32)), q ≤ N ∧ v = .int .u32 (wN (nw q)) ∧ Below S w wr ∧ MakeSt wr S T n A c sc ts1 ∧ ts1.take k = ts.take k ∧ (firstW q fun q => if okTo sc (ts.take k) (nw q) k then solve sc f (ts.take k ++ [nw q]) else none) = none) (fun v _ => N - (intOf v).toNat)
        case atStart => exact ⟨nowW.toNat, ts, by omega, by rw [nw_toNat], Below.refl _ _, HST.out, rfl, HN0.out⟩
        case round =>
          clear HST HN0 c1 c3
          rename World => wr
          obtain ⟨q, ts1, hq, rfl, hb, hst, htk, hno⟩ := hrel
          have c1 := hst.b1.cell 0
          have c3 := hst.b3.cell 0
          have c0 := hst.b0.cell 0
          have c4 := hst.b4.cell 0
          have hqw := wN_nw (k := q) (by omega)
          have hqw1 := wN_nw (k := q + 1) (by omega)
          have HB := Lib.hid hb
          have HNO := Lib.hid hno
          have HTK := Lib.hid htk
          have hsucc := nw_succ q
          by_cases hlt2 : q < N
          · have hki : k < sc.length := by rw [hsc]; exact hin
            obtain ⟨b, off, rfl, hbb, g0⟩ := hst.els.at1 hki
            obtain ⟨s, hs⟩ : ∃ s, s = sc[k] := ⟨_, rfl⟩
            rw [← hs] at g0
            obtain ⟨x, hx⟩ : ∃ x, x = nw q := ⟨_, rfl⟩
            have hok : okTo sc (ts.take k) x k = ((wAnd x (maskW k) == nowW) && (wAnd (wShr x k) w1 == w0) && ((pop x : Int) == s)) := by
              rw [mk_ok sc ts x k (by omega) (by rw [HTL.out]; omega), HNOW.out, getD_at sc k hki 0, hs]
            have HX := Lib.hid hx
            rw [← hx] at hqw hsucc
            have hlt' : wN x < wN (wShl w1 n) := by rw [hqw, HPW.out]; omega
            have HQW := Lib.hid hqw
            have HQW1 := Lib.hid hqw1
            have HSU := Lib.hid hsucc
            have HST := Lib.hid hst
            have hk2 : k < ts1.length := by rw [hst.len]; exact hin
            obtain ⟨g, hg, _, _, gk, fk⟩ := hst.own.cell1 (f := fun x => .int .u32 (wN x)) hk2
            obtain rfl : S + 2 = g := by simpa using hg
            generalize ts1[k] = y at gk
            rw [← hx]
            clear hx hs hqw hqw1 hsucc hg hst hb hno htk
            by_cases ho : okTo sc (ts.take k) x k = true
            · have h3 := ho
              rw [hok] at h3
              have p1 : (wAnd x (wSub (wShl w1 k) w1) == nowW) = true := by
                cases h : (wAnd x (maskW k) == nowW) with
                | true => exact h
                | false => rw [h] at h3; simp at h3
              have p2 : (wAnd (wShr x k) w1 == w0) = true := by
                cases h : (wAnd (wShr x k) w1 == w0) with
                | true => rfl
                | false => rw [h] at h3; simp at h3
              have p3 : ((pop x : Int) == s) = true := by
                cases h : ((pop x : Int) == s) with
                | true => rfl
                | false => rw [h] at h3; simp at h3
              have HO := Lib.hid ho
              clear ho h3 hok
              go_wp2_with fail
              go_quiet ((go_at_call 58; exact quietN (OnesCount32_any _ _)))
              have d4 := ((HST.out.drewN nq).put k hin x).b4.cell 0
              go_wp2_with fail
              have hcall := HIH.out (k + 1) (ts1.set k x) _ (by omega) ((HST.out.drewN nq).put k hin x)
              rw [show ((k + 1 : Nat) : Int) = (k : Int) + 1 by omega] at hcall
              have htk2 : (ts1.set k x).take (k + 1) = ts.take k ++ [x] := by
                rw [List.take_succ_eq_append_getElem (by rw [List.length_set]; exact hk2), List.take_set_of_le (Nat.le_refl _), HTK.out]
                simp
              rw [htk2] at hcall
              have HC := Lib.hid hcall
              have HTK2 := Lib.hid htk2
              clear hcall htk2
              refine HC.out.mono ?_
              clear HC
              rintro e w2 ⟨rfl, hb2, ts2, hst2, htk3, hu2⟩
              have HB2 := Lib.hid (((below_drewN HB.out nq).setCell (show S ≤ S + 2 by omega) (.int .u32 (wN x))).trans hb2)
              have htk4 : ts2.take k = ts.take k := by
                have := congrArg (List.take k) htk3
                rw [List.take_take, Nat.min_eq_left (by omega)] at this
                have hlk : (ts.take k).length = k := by rw [List.length_take, HTL.out]; omega
                rw [this, List.take_append_of_le_length (by rw [hlk]; exact Nat.le_refl _), List.take_take, Nat.min_self]
              have HTK4 := Lib.hid htk4
              have HST2 := Lib.hid hst2
              have HU2 := Lib.hid hu2
              clear hb2 hst2 htk3 hu2 htk4 c0 c1 c3 c4 d4
              have c1 := HST2.out.b1.cell 0
              rcases hsol : solve sc f (ts.take k ++ [x]) with _ | u
              · have HSOL := Lib.hid hsol
                have hi0 : (none : Option (List (BitVec 32))).isSome = false := rfl
                rw [hi0]
                clear hsol
                go_wp2_with fail
                go_roundw
                case rel => exact ⟨q + 1, ts2, by omega, by rw [HSU.out], HB2.out, HST2.out, HTK4.out, by rw [firstW_succ, HNO.out, ← HX.out, HO.out, HSOL.out]; rfl⟩
                case measure =>
                  rw [HSU.out]
                  simp [intOf]
                  rw [HQW.out, HQW1.out]
                  omega
              · have HF : Hid (solve sc (f + 1) (ts.take k) = some u) := by
                  show solve sc (f + 1) (ts.take k) = some u
                  rw [HS.out]
                  refine firstW_some hlt2 HNO.out ?_
                  rw [← HX.out, HO.out]
                  simpa using hsol
                have HSOL := Lib.hid hsol
                have hi1 : (some u).isSome = true := rfl
                rw [hi1]
                clear hsol
                go_wp2_with fail
                go_ret
                exact ⟨ret_bool (by rw [HF.out]; rfl), HB2.out, ts2, HST2.out, HTK4.out, fun u' hu => by rw [HF.out] at hu; injection hu with hu; rw [← hu]; exact HU2.out u HSOL.out⟩
            · have HO : Hid (okTo sc (ts.take k) x k = false) := by show okTo sc (ts.take k) x k = false; simpa using ho
              by_cases p1 : (wAnd x (wSub (wShl w1 k) w1) == nowW) = true
              · by_cases p2 : (wAnd (wShr x k) w1 == w0) = true
                · have p3 : ((pop x : Int) == s) = false := by
                    have h := HO.out
                    rw [hok, show (wAnd x (maskW k) == nowW) = true from p1, p2] at h
                    simpa using h
                  clear ho hok
                  go_wp2_with fail
                  go_quiet ((go_at_call 58; exact quietN (OnesCount32_any _ _)))
                  go_wp2_with fail
                  go_roundw
                  case rel => exact ⟨q + 1, ts1, by omega, by rw [HSU.out], below_drewN HB.out _, HST.out.drewN _, HTK.out, by rw [firstW_succ, HNO.out, ← HX.out, HO.out]; rfl⟩
                  case measure =>
                    rw [HSU.out]
                    simp [intOf]
                    rw [HQW.out, HQW1.out]
                    omega
                · have p2' : (wAnd (wShr x k) w1 == w0) = false := by simpa using p2
                  clear ho hok p2
                  go_wp2_with fail
                  go_quiet (fail)
                  go_wp2_with fail
                  go_roundw
                  case rel => exact ⟨q + 1, ts1, by omega, by rw [HSU.out], below_drewN HB.out _, HST.out.drewN _, HTK.out, by rw [firstW_succ, HNO.out, ← HX.out, HO.out]; rfl⟩
                  case measure =>
                    rw [HSU.out]
                    simp [intOf]
                    rw [HQW.out, HQW1.out]
                    omega
              · have p1' : (wAnd x (wSub (wShl w1 k) w1) == nowW) = false := by simpa using p1
                clear ho hok p1
                go_wp2_with fail
                go_quiet (fail)
                go_wp2_with fail
                go_roundw
                case rel => exact ⟨q + 1, ts1, by omega, by rw [HSU.out], below_drewN HB.out _, HST.out.drewN _, HTK.out, by rw [firstW_succ, HNO.out, ← HX.out, HO.out]; rfl⟩
                case measure =>
                  rw [HSU.out]
                  simp [intOf]
                  rw [HQW.out, HQW1.out]
                  omega
          · obtain rfl : q = N := by omega
            have hge : ¬ wN (nw q) < wN (wShl w1 n) := by rw [hqw, HPW.out]; omega
            have HF : Hid (solve sc (f + 1) (ts.take k) = none) := HS.out.trans HNO.out
            have HST := Lib.hid hst
            clear hqw hqw1 hsucc hno hst hb htk
            go_wp2_with fail
            go_ret
            exact ⟨ret_bool (by rw [HF.out]; rfl), HB.out, ts1, HST.out, HTK.out, fun u hu => by rw [HF.out] at hu; cases hu⟩
end Go.Proofs.Ytaldkafibemhnaa
