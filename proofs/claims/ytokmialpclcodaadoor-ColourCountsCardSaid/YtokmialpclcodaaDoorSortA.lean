/- The reference's table: in how many ways each word can be put into so many sets. Conditions: the graph is one; the table. -/
import Derived.Test.YtokmialpclcodaaDoorSortP
import Derived.Test.YtokmialpclcodaaDoorTurnB
import Derived.Test.YtokmialpclcodaaDoorLoose
namespace Go.Proofs.YtokmialpclcodaaDoor
open Go.RowKit Go.Shelf
attribute [local go_sem ↓] w_and w_or w_xor w_andNot w_and1 w_and255 w_xor1 w_or0 w_shl w_shl1 w_shr w_sub w_add w_sub1 w_add1
attribute [local go_sem] w_eq0 w_ne0 w_eq1 w_eq w_ne

def tcell (v : Value) : List Value := [v]
def tabL (P m k : Nat) (q : Nat → Nat) : List Value := (List.range P).map fun j => if j < k then .slice (some ⟨q j, 0, none⟩) m m else .slice none 0 0
/-- The table: its rows up to k. -/
structure Tb (W : World) (S G P m k : Nat) (q : Nat → Nat) (M : Nat → Nat → Int) : Prop where
  out : Own W S 62 1 (fun v : Value => [v]) (some ⟨G, 0, none⟩) P (tabL P m k q)
  row : ∀ j, j < k → Own W S 2 1 icell (some ⟨q j, 0, none⟩) m ((List.range m).map (M j))
section
variable {W W' : World} {S G P m k : Nat} {q : Nat → Nat} {M : Nat → Nat → Int}
theorem Tb.below (h : Tb W S G P m k q M) (hb : Below W.heap.size W W') : Tb W' S G P m k q M := ⟨h.out.below hb (Nat.le_refl _), fun j hj => (h.row j hj).below hb (Nat.le_refl _)⟩
theorem Tb.drew (h : Tb W S G P m k q M) : Tb W.drew S G P m k q M := ⟨h.out.drew, fun j hj => (h.row j hj).drew⟩
theorem Tb.far (h : Tb W S G P m k q M) {p : Addr} (hG : G ≠ p.block) (hq : ∀ j, j < k → q j ≠ p.block) (u : Value) : Tb (W.setCell p u) S G P m k q M :=
  ⟨h.out.far (by simpa [blkOf] using hG) u, fun j hj => (h.row j hj).far (by simpa [blkOf] using hq j hj) u⟩
theorem Tb.kept (h : Tb W S G P m k q M) (hg : W.grownBy W' none) : Tb W' S G P m k q M := ⟨h.out.kept hg (.inr (by simp [blkOf])), fun j hj => (h.row j hj).kept hg (.inr (by simp [blkOf]))⟩
theorem Tb.ne (h : Tb W S G P m k q M) {j : Nat} (hj : j < k) : q j ≠ G := fun e => by
  have := (h.row j hj).apart h.out (by decide)
  simp [blkOf, e] at this
theorem Tb.size (h : Tb W S G P m k q M) (hP : 0 < P) : S ≤ G ∧ G < W.heap.size := h.out.lt G rfl
theorem Tb.qlt (h : Tb W S G P m k q M) {j : Nat} (hj : j < k) : S ≤ q j ∧ q j < W.heap.size := (h.row j hj).lt (q j) rfl
theorem tab_0 : List.replicate P (Value.slice none 0 0) = tabL P m 0 q := by
  unfold tabL
  apply List.ext_getElem
  · simp
  · intro i h1 h2
    simp
theorem tabL_len : (tabL P m k q).length = P := mapR_len _ _
theorem tab_set (R : Nat) : (tabL P m k q).set k (.slice (some ⟨R, 0, none⟩) m m) = tabL P m (k + 1) (fun j => if j = k then R else q j) := by
  unfold tabL
  rw [mapR_set]
  refine mapR_congr fun j _ => ?_
  by_cases e : j = k
  · subst e; rw [if_pos rfl, if_pos (by omega)]; simp only [if_true]
  · simp only [if_neg e]
    by_cases e2 : j < k
    · rw [if_pos e2, if_pos (by omega)]
    · rw [if_neg e2, if_neg (by omega)]
/-- A row put into the table. -/
theorem Tb.put (h : Tb W S G P m k q M) (hk : k < P) {R : Nat} (hr : Own W S 2 1 icell (some ⟨R, 0, none⟩) m ((List.range m).map (M k))) : Tb (W.setCell ⟨G, k, none⟩ (.slice (some ⟨R, 0, none⟩) m m)) S G P m (k + 1) (fun j => if j = k then R else q j) M := by
  refine ⟨?_, fun j hj => ?_⟩
  · have h1 := h.out.put1 (f := fun v : Value => v) (k := k) (x := .slice (some ⟨R, 0, none⟩) m m) (by rw [tabL_len]; exact hk)
    rw [← tab_set]
    exact h1
  · by_cases e : j = k
    · subst e
      have hap := hr.apart h.out (by decide)
      simp only [if_true]
      exact hr.far (by simpa [blkOf] using hap) _
    · rw [if_neg e]
      have := h.ne (show j < k by omega)
      exact (h.row j (by omega)).far (by simpa [blkOf] using this) _
/-- The cells on the way to a number. -/
theorem Tb.at_ (h : Tb W S G P m k q M) {i j : Nat} (hi : i < k) (hk : k ≤ P) (hj : j < m) : W.cell? ⟨G, i, none⟩ = some (.slice (some ⟨q i, 0, none⟩) m m) ∧ W.cell? ⟨q i, j, none⟩ = some (.int .i64 (M i j)) := by
  obtain ⟨g, hA, _, _, hc, _⟩ := h.out.cell1 (f := fun v : Value => v) (k := i) (by rw [tabL_len]; omega)
  obtain rfl : G = g := by simpa using hA
  obtain ⟨g2, hA2, _, _, hc2, _⟩ := (h.row i hi).cell1 (f := fun x : Int => .int .i64 x) (k := j) (by rw [mapR_len]; exact hj)
  obtain rfl : q i = g2 := by simpa using hA2
  refine ⟨?_, ?_⟩
  · rw [hc]
    unfold tabL
    rw [mapR_get, if_pos hi]
  · rw [hc2, mapR_get]
end
theorem nw_mask {N : Nat} (hN : N ≤ 10) : nw (2 ^ N - 1) = maskW N := by
  unfold maskW nw wSub
  apply BitVec.eq_of_toNat_eq
  have h1 := Nat.one_le_two_pow (n := N)
  have h2 : 2 ^ N ≤ 1024 := Nat.pow_le_pow_right (n := 2) (by omega) hN
  rw [BitVec.toNat_sub, BitVec.toNat_ofNat, wN_shl1 (by omega)]
  show (2 ^ N - 1) % 2 ^ 32 = (2 ^ 32 - 1 + 2 ^ N) % 2 ^ 32
  omega
theorem bit_nat' (x : BitVec 32) {j : Nat} (_hj : j < 32) : bitB x (j : Int) = x.getLsbD j := bitB_nat x j
set_option maxRecDepth 100000 in
set_option maxHeartbeats 2000000 in
theorem ref_Sorts (N n c : Nat) (A : Option Addr) (es : List Ed) (w : World) (hl : es.length = n) (hg : GoodG N es) (hr : Els w w.heap.size 3 Ed.cells A es) (h0w : 0 < w.heap.size) :
    Calls Tryd.prog 40 #[.agg #[.int .i64 N, .slice A n c]] w fun e w' => ∃ R : Nat, e = .returned (.slice (some ⟨R, 0, none⟩) (N + 1) (N + 1)) ∧ Below w.heap.size w w' ∧ Own w' w.heap.size 2 1 icell (some ⟨R, 0, none⟩) (N + 1) ((List.range (N + 1)).map fun j => TS N (looseB es) j (maskW N)) := by
  have hN10 := hg.n10
  have hn45 : n ≤ 45 := by rw [← hl]; exact hg.m45
  obtain ⟨S, hS⟩ : ∃ S, S = w.heap.size := ⟨_, rfl⟩
  have b0 := Blk.new w 33 #[.int .i64 N, .slice A n c]
  have c0 := b0.cell 0
  have c1 := b0.cell 1
  obtain ⟨W1, hW1⟩ : ∃ W1, W1 = w.alloc (.cells #[.int .i64 N, .slice A n c] 33) := ⟨_, rfl⟩
  have hb1 : Below S w W1 := by rw [hW1, hS]; exact (Below.refl _ w).alloc (Nat.le_refl _) _
  have hz1 : W1.heap.size = S + 1 := by rw [hW1, size_alloc', hS]
  rw [← hW1, ← hS] at b0
  rw [← hS] at hr
  have HR := Lib.hid hr
  have HB0 := Lib.hid b0
  have HB1 := Lib.hid hb1
  have HL := Lib.hid hl
  have HG := Lib.hid hg
  have HW1 := Lib.hid hW1
  have HS := Lib.hid hS
  have hS0 : 0 < S := by omega
  obtain ⟨P, hP⟩ : ∃ P, P = 2 ^ N := ⟨_, rfl⟩
  have hP1 : 1 ≤ P := by rw [hP]; exact Nat.one_le_two_pow
  have hP2 : P ≤ 1024 := by rw [hP]; exact Nat.pow_le_pow_right (n := 2) (by omega) (show N ≤ 10 from hN10)
  have HP := Lib.hid hP
  have hpn := (pw_wrap (N := N) hN10).1
  have hpi := (pw_wrap (N := N) hN10).2
  rw [← hP] at hpn hpi
  obtain ⟨m, hm⟩ : ∃ m, m = N + 1 := ⟨_, rfl⟩
  have hn1 : IntKind.i64.wrap ((N : Int) + 1) = (m : Int) := by rw [wrap_in (by omega)]; omega
  rw [← hm]
  have hm0 : 0 < m := by omega
  have hm11 : m ≤ 11 := by omega
  have hmN1 : N < m := by omega
  have hmN2 : m ≤ N + 1 := by omega
  have HM := Lib.hid hm
  clear hr b0 hb1 hl hW1 hS hP hm
  go_enter Tryd.func40, Tryd.ntmps40
  go_wp2_with (at_make; first
    | (refine wpList_make1 rfl _ _ _ rfl S 62 24 (fun v : Value => v) (.slice none 0 0) Tryd.underlying87 (by kernel_rfl) rfl _ .i64 .i64 P rfl rfl (by omega) (by unfold maxLen; omega) (by rw [size_alloc']; have := HS.out; omega) ?_
       intro v3 hown3 hgrow3
       have hv3 : S ≤ v3.heap.size := by have := hown3.lt _ rfl; omega)
    | (refine wpList_make1 rfl _ _ _ rfl S 2 8 (fun x : Int => .int .i64 x) 0 Tryd.underlying62 (by kernel_rfl) rfl _ .i64 .i64 m rfl rfl (by omega) (by unfold maxLen; omega) (by assumption) ?_
       intro v4 hown4 hgrow4
       have hT4 := hown3.kept hgrow4 (.inr (by simp [blkOf]))
       have hap := hown4.apart hT4 (by decide)
       have hT5 := hT4.put1 (f := fun v : Value => v) (k := 0) (x := .slice (some ⟨v3.heap.size, 0, none⟩) m m) (by simp; omega)
       have hR5 := hown4.far (p := ⟨(w.alloc (.cells #[.int .i64 N, .slice A n c] 33)).heap.size, 0, none⟩) (by simpa [blkOf] using hap) (.slice (some ⟨v3.heap.size, 0, none⟩) m m)
       obtain ⟨g3, hg3, _, _, y0, f0⟩ := hT4.cell1 (f := fun v : Value => v) (k := 0) (by simp; omega)
       obtain ⟨g4, hg4, _, _, y1, f1⟩ := hT5.cell1 (f := fun v : Value => v) (k := 0) (by simp; omega)
       obtain ⟨g5, hg5, _, _, y2, f2⟩ := hR5.cell1 (f := fun x : Int => .int .i64 x) (k := 0) (by simp; omega)
       simp only [Option.some.injEq, Addr.mk.injEq, and_true] at hg3 hg4 hg5
       subst hg3
       subst hg4
       subst hg5
       rw [List.getElem_set_self] at y1
       rw [size_alloc'] at y0 f0 y1 f1 y2 f2 hT5))
  rw [← HW1.out] at hown3 hgrow3
  rw [← HS.out] at hT5 y0 y1 y2 ⊢
  have hrl : ((List.replicate m (0 : Int)).set 0 1) = (List.range m).map fun j => TS N (looseB es) j (nw 0) := by
    have h0 : (nw 0) = w0 := rfl
    rw [h0]
    apply List.ext_getElem
    · simp
    · intro i h1 h2
      rw [mapR_get, List.getElem_set]
      cases i with
      | zero => rw [if_pos rfl, TS_00]
      | succ i => rw [if_neg (by omega), TS_s0, List.getElem_replicate]
  have htb1 : Tb ((v4.setCell ⟨S + 1, 0, none⟩ (.slice (some ⟨v3.heap.size, 0, none⟩) m m)).setCell ⟨v3.heap.size, 0, none⟩ (.int .i64 1)) S (S + 1) P m 1 (fun _ => v3.heap.size) (fun k j => TS N (looseB es) j (nw k)) := by
    have hne : S + 1 ≠ v3.heap.size := fun e => by
      rw [← HW1.out, hz1] at hap
      simp [blkOf, e] at hap
    refine ⟨?_, fun j hj => ?_⟩
    · have h := hT5.far (p := ⟨v3.heap.size, 0, none⟩) (by simpa [blkOf] using hne) (.int .i64 1)
      rw [tab_0 (m := m) (q := fun _ => v3.heap.size), tab_set] at h
      simpa only [ite_self] using h
    · have h := hR5.put1 (f := fun x : Int => .int .i64 x) (k := 0) (x := 1) (by simp; omega)
      obtain rfl : j = 0 := by omega
      rw [hrl] at h
      rw [← HW1.out, hz1] at h
      exact h
  have hbV : Below S w ((v4.setCell ⟨S + 1, 0, none⟩ (.slice (some ⟨v3.heap.size, 0, none⟩) m m)).setCell ⟨v3.heap.size, 0, none⟩ (.int .i64 1)) := ((HB1.out.grown hgrow3 (by omega) (fun g hg => by cases hg)).grown hgrow4 (by have := hown3.lt _ rfl; omega) (fun g hg => by cases hg)).setCell (p := ⟨S + 1, 0, none⟩) (show S ≤ S + 1 by omega) _ |>.setCell (p := ⟨v3.heap.size, 0, none⟩) hv3 _
  have hkV : Blk ((v4.setCell ⟨S + 1, 0, none⟩ (.slice (some ⟨v3.heap.size, 0, none⟩) m m)).setCell ⟨v3.heap.size, 0, none⟩ (.int .i64 1)) S 33 #[.int .i64 N, .slice A n c] := (((HB0.out.grown hgrow3 (by simp)).grown hgrow4 (by simp)).far (p := ⟨S + 1, 0, none⟩) (show S ≠ S + 1 by omega) _).far (p := ⟨v3.heap.size, 0, none⟩) (show S ≠ v3.heap.size by have := (HB0.out.grown hgrow3 (by simp)).lt; omega) _
  obtain ⟨VV, hVV⟩ : ∃ VV, VV = (v4.setCell ⟨S + 1, 0, none⟩ (.slice (some ⟨v3.heap.size, 0, none⟩) m m)).setCell ⟨v3.heap.size, 0, none⟩ (.int .i64 1) := ⟨_, rfl⟩
  obtain ⟨G, hG⟩ : ∃ G, G = S + 1 := ⟨_, rfl⟩
  rw [← hVV] at htb1 hbV hkV ⊢
  rw [← hG] at htb1 ⊢
  have HTB := Lib.hid htb1
  have HB := Lib.hid hbV
  have HK := Lib.hid hkV
  have hGS : S < G := by omega
  clear hVV htb1 hbV hkV hT4 hT5 hR5 hap hown3 hown4 hgrow3 hgrow4 y0 y1 y2 f0 f1 f2 hrl hv3 hG hz1 HB0 HB1 HW1 c0 c1
  have hpu : IntKind.u32.wrap (P : Int) = (P : Int) := by
    have h : ∀ i : Fin 1025, IntKind.u32.wrap ((i.val : Nat) : Int) = (i.val : Int) := by decide +kernel
    exact h ⟨P, by omega⟩
  go_loopw [5] (fun s5 wr => ∃ (k : Nat) (q : Nat → Nat), 1 ≤ k ∧ k ≤ P ∧ s5 = .int .u32 (wN (nw k)) ∧ Below S w wr ∧ Blk wr S 33 #[.int .i64 N, .slice A n c] ∧ Tb wr S G P m k q (fun k j => TS N (looseB es) j (nw k))) (fun s5 _ => P - (intOf s5).toNat)
  case atStart => exact ⟨1, _, Nat.le_refl _, hP1, rfl, HB.out, HK.out, HTB.out⟩
  case round =>
    clear HB HK HTB
    rename World => wr
    obtain ⟨k, q, hk1, hkP, rfl, hb, hkb, htb⟩ := hrel
    have hwk : wN (nw k) = k := wN_nw (by omega)
    have hz := hb.size
    rw [← HS.out] at hz
    have HWK := Lib.hid hwk
    have c0 := hkb.cell 0
    have c1 := hkb.cell 1
    have HB := Lib.hid hb
    have HKB := Lib.hid hkb
    have HTB := Lib.hid htb
    by_cases hlt : k < P
    · have hlt' : wN (nw k) < (P : Int) := by rw [hwk]; omega
      obtain ⟨X, hX⟩ : ∃ X, X = nw k := ⟨_, rfl⟩
      rw [← hX] at hlt' ⊢
      have HX := Lib.hid hX
      have hin : InW N X := by rw [hX]; exact in_nw (by omega) (by rw [← HP.out]; exact hlt)
      have hX0 : X ≠ w0 := fun e => by
        have : wN (nw k) = wN w0 := by rw [← hX, e]
        rw [hwk] at this
        have h2 : wN w0 = 0 := rfl
        omega
      have hXt : X.toNat = k := by rw [hX, nwt_toNat (by omega)]
      have HXT := Lib.hid hXt
      have HIN := Lib.hid hin
      have HX0 := Lib.hid hX0
      clear hb hkb htb hX hwk hXt hin hX0
      go_wp2_with (at_make; go_loud (refine wpList_make1 rfl _ _ _ rfl S 2 8 (fun x : Int => .int .i64 x) 0 Tryd.underlying62 (by kernel_rfl) rfl _ .i64 .i64 m rfl rfl (by omega) (by unfold maxLen; omega) hz ?_; intro v5 hown5 hgrow5))
      have hb5 := HB.out.grown hgrow5 (by have := HS.out; omega) (fun g hg => by cases hg)
      have hk5 := HKB.out.grown hgrow5 (by simp)
      have ht5 := HTB.out.kept hgrow5
      obtain ⟨R, hR⟩ : ∃ R, R = wr.heap.size := ⟨_, rfl⟩
      have hqR : ∀ j, j < k → q j < R := fun j hj => by rw [hR]; exact (HTB.out.qlt hj).2
      have hGR : G < R := by rw [hR]; exact (HTB.out.size hP1).2
      rw [← hR] at hown5 ⊢
      have HQR := Lib.hid hqR
      have HB5 := Lib.hid hb5
      have HK5 := Lib.hid hk5
      have HT5 := Lib.hid ht5
      have HO5 := Lib.hid hown5
      clear hgrow5 hb5 hk5 ht5 hown5 hqR hR HB HKB HTB c0 c1
      go_loopw [8, 7] (fun s8 s7 wr => v5 = wr ∧ ∃ j : Nat, j ≤ N ∧ s8 = .int .i64 j ∧ s7 = .int .i64 (topTo X j)) (fun s8 _ _ => N - (intOf s8).toNat)
      case atStart => exact ⟨rfl, 0, Nat.zero_le _, rfl, rfl⟩
      case round =>
        rename World => wr
        obtain ⟨rfl, j, hj, rfl, rfl⟩ := hrel
        by_cases hjn : j < N
        · cases hbit : X.getLsbD j with
          | true =>
            have htop : topTo X (j + 1) = j := by rw [topTo, if_pos hbit]
            have HBIT : Hid (bitB X (j : Int) = true) := Lib.hid (by rw [bitB_nat]; exact hbit)
            have HTOP := Lib.hid htop
            clear hbit htop
            go_wp2_with fail
            refine (Bit_any X j _).mono ?_
            rintro _ w' ⟨rfl, rfl⟩
            rw [HBIT.out]
            go_wp2_with fail
            go_roundw
            case rel => exact ⟨trivial, j + 1, hjn, by go_num, by rw [HTOP.out]⟩
            case measure => simp [intOf]; omega
          | false =>
            have htop : topTo X (j + 1) = topTo X j := by rw [topTo, if_neg (by rw [hbit]; simp)]
            have HBIT : Hid (bitB X (j : Int) = false) := Lib.hid (by rw [bitB_nat]; exact hbit)
            have HTOP := Lib.hid htop
            clear hbit htop
            go_wp2_with fail
            refine (Bit_any X j _).mono ?_
            rintro _ w' ⟨rfl, rfl⟩
            rw [HBIT.out]
            go_wp2_with fail
            go_roundw
            case rel => exact ⟨trivial, j + 1, hjn, by go_num, by rw [HTOP.out]⟩
            case measure => simp [intOf]; omega
        · obtain rfl : N = j := by omega
          obtain ⟨T, hT⟩ : ∃ T, T = topTo X N := ⟨_, rfl⟩
          rw [← hT]
          have htop := (top_spec HIN.out HX0.out).2.1
          rw [← hT] at htop
          have hT32 : T < 32 := by omega
          have HTT := Lib.hid hT
          have hrow0 : List.replicate m (0 : Int) = (List.range m).map (sRow N (looseB es) X k) := by
            apply List.ext_getElem
            · simp
            · intro i h1 h2
              have := sRow_top (A := looseB es) (n := N) (w := X) (by omega) (by rw [HXT.out, ← HP.out]; exact hlt) HX0.out i
              rw [HXT.out] at this
              rw [mapR_get, List.getElem_replicate, this]
          have HO6 : Hid (Own v5 S 2 1 icell (some ⟨R, 0, none⟩) m ((List.range m).map (sRow N (looseB es) X k))) := Lib.hid (by rw [← hrow0]; exact HO5.out)
          clear hT hrow0 HO5 htop
          go_wp2_with fail
          go_loopw [9] (fun s9 w2 => ∃ s : Nat, s ≤ k ∧ s &&& k = s ∧ s9 = .int .u32 (wN (nw s)) ∧ Below S w w2 ∧ Blk w2 S 33 #[.int .i64 N, .slice A n c] ∧ Tb w2 S G P m k q (fun k j => TS N (looseB es) j (nw k)) ∧ Own w2 S 2 1 icell (some ⟨R, 0, none⟩) m ((List.range m).map (sRow N (looseB es) X s))) (fun s9 _ => (intOf s9).toNat)
          case atStart => exact ⟨k, Nat.le_refl _, Nat.and_self k, by rw [HX.out], HB5.out, HK5.out, HT5.out, HO6.out⟩
          case round =>
            clear HB5 HK5 HT5 HO6
            rename World => w2
            obtain ⟨s, hsk, hsub, rfl, hb, hkb, htb, hown⟩ := hrel
            have hws : wN (nw s) = s := wN_nw (by omega)
            have hz2 := hb.size
            rw [← HS.out] at hz2
            have c0 := hkb.cell 0
            have c1 := hkb.cell 1
            have HB := Lib.hid hb
            have HKB := Lib.hid hkb
            have HTB := Lib.hid htb
            have HO := Lib.hid hown
            by_cases hs0 : s = 0
            · subst hs0
              have hz0 : ¬ 0 < wN (nw 0) := by rw [hws]; omega
              have hdone : (List.range m).map (sRow N (looseB es) X 0) = (List.range m).map fun j => TS N (looseB es) j (nw k) := mapR_congr fun j _ => by rw [sRow_end HX0.out, HX.out]
              have hown' := hown
              rw [hdone] at hown'
              have hput := Tb.put (M := fun k j => TS N (looseB es) j (nw k)) htb hlt hown'
              have HPUT := Lib.hid hput
              obtain ⟨g1, hg1, _, _, y0, f0⟩ := htb.out.cell1 (f := fun v : Value => v) (k := k) (by rw [tabL_len]; exact hlt)
              obtain rfl : G = g1 := by simpa using hg1
              have hsu : wAdd X w1 = nw (k + 1) := by rw [HX.out, nw_succ]
              have HSU := Lib.hid hsu
              have hXk : (wN X).toNat = k := by rw [HX.out, HWK.out]; rfl
              have hXn := wN_nonneg X
              clear hb hkb htb hown hown' hdone hput hg1 hsu hws
              go_wp2_with fail
              go_roundw
              case rel => exact ⟨k + 1, _, by omega, by omega, by rw [HSU.out], HB.out.setCell (p := ⟨G, k, none⟩) (show S ≤ G by omega) _, HKB.out.far (p := ⟨G, k, none⟩) (show S ≠ G by omega) _, HPUT.out⟩
              case measure => (show P - (wN (wAdd X w1)).toNat < P - (wN X).toNat; rw [HSU.out, HX.out, wN_nw (by omega), wN_nw (by omega)]; omega)
            · have hs0' : 0 < s := by omega
              obtain ⟨s', hs'⟩ : ∃ s', s' = (s - 1) &&& k := ⟨_, rfl⟩
              have hlt2 := sub_lt (w := k) hs0'
              rw [← hs'] at hlt2
              have hsub' := sub_sub k s
              rw [← hs'] at hsub'
              have hnx : wAnd (wSub (nw s) w1) X = nw s' := by
                obtain ⟨r, rfl⟩ : ∃ r, s = r + 1 := ⟨s - 1, by omega⟩
                rw [pred_nw, HX.out, and_nw (by omega), hs', Nat.add_sub_cancel]
              have hql := but_less (k := k) (s := s) (by omega) hs0' hsub
              rw [← HX.out] at hql
              have hgt : 0 < wN (nw s) := by rw [hws]; omega
              have hskip := fun hf i => sRow_skip (n := N) (A := looseB es) (w := X) (s := s) (s' := s') (by rw [HXT.out]; exact hsub) hs0' (by rw [HXT.out]; exact hs') hf i
              have htake := fun hf i => sRow_take (n := N) (A := looseB es) (w := X) (s := s) (s' := s') (by rw [HXT.out]; exact hsub) hs0' (by rw [HXT.out]; exact hs') hf i
              have hin' : ∀ i, i ≤ 10 → 0 ≤ sRow N (looseB es) X s' i ∧ sRow N (looseB es) X s' i ≤ 10000000000 := fun i hi => sRow_in hN10 (by rw [HXT.out, ← HP.out]; exact hlt) HIN.out HX0.out (by rw [HXT.out]; omega) hi
              rw [← HTT.out] at hskip htake
              obtain ⟨y, hy⟩ : ∃ y, y = nw s := ⟨_, rfl⟩
              rw [← hy] at hnx hql hgt hskip htake ⊢
              have HY := Lib.hid hy
              have HNX := Lib.hid hnx
              have HS' := Lib.hid hlt2
              have HSUB := Lib.hid hsub'
              have HSKIP := Lib.hid hskip
              have HTAKE := Lib.hid htake
              have HINN := Lib.hid hin'
              have HLO := Lib.hid (ref_Loose N y A n c es w2 HL.out hn45 ((HR.out.below HB.out).more (by have := HS.out; omega)))
              clear hb hkb htb hown hy hnx hlt2 hsub' hskip htake hin' hs' hws hsub hs0
              cases hbit : y.getLsbD T with
              | false =>
                have HBIT : Hid (bitB y (T : Int) = false) := Lib.hid (by rw [bitB_nat]; exact hbit)
                have HSAME : Hid ((List.range m).map (sRow N (looseB es) X s') = (List.range m).map (sRow N (looseB es) X s)) := Lib.hid (mapR_congr fun i _ => HSKIP.out (by rw [hbit]; simp) i)
                clear hbit
                go_wp2_with fail
                refine (Bit_any y T _).mono ?_
                rintro _ w' ⟨rfl, rfl⟩
                rw [HBIT.out]
                go_wp2_with fail
                go_roundw
                case rel => exact ⟨s', by have := HS'.out; omega, HSUB.out, by rw [HNX.out], HB.out, HKB.out, HTB.out, by rw [HSAME.out]; exact HO.out⟩
                case measure => (show (wN (wAnd (wSub y w1) X)).toNat < (wN y).toNat; rw [HNX.out, HY.out, wN_nw (by have := HS'.out; omega), wN_nw (by omega)]; have := HS'.out; omega)
              | true =>
                have HBIT : Hid (bitB y (T : Int) = true) := Lib.hid (by rw [bitB_nat]; exact hbit)
                have HBB := Lib.hid hbit
                clear hbit
                go_wp2_with fail
                refine (Bit_any y T _).mono ?_
                rintro _ w' ⟨rfl, rfl⟩
                rw [HBIT.out]
                go_wp2_with fail
                refine HLO.out.mono ?_
                clear HLO
                rintro e w3 ⟨rfl, hb3⟩
                have HB3 := Lib.hid (HB.out.trans (hb3.mono hz2))
                have HK3 := Lib.hid (HKB.out.below hb3 (by have := HKB.out.lt; omega))
                have HT3 := Lib.hid (HTB.out.below hb3)
                have HO3 := Lib.hid (HO.out.below hb3 (Nat.le_refl _))
                clear hb3 HB HKB HTB HO c0 c1
                cases hlo : looseB es y with
                | false =>
                  have HSAME : Hid ((List.range m).map (sRow N (looseB es) X s') = (List.range m).map (sRow N (looseB es) X s)) := Lib.hid (mapR_congr fun i _ => HSKIP.out (by rw [hlo]; simp) i)
                  clear hlo
                  go_wp2_with fail
                  go_roundw
                  case rel => exact ⟨s', by have := HS'.out; omega, HSUB.out, by rw [HNX.out], HB3.out, HK3.out, HT3.out, by rw [HSAME.out]; exact HO3.out⟩
                  case measure => (show (wN (wAnd (wSub y w1) X)).toNat < (wN y).toNat; rw [HNX.out, HY.out, wN_nw (by have := HS'.out; omega), wN_nw (by omega)]; have := HS'.out; omega)
                | true =>
                  have HTK := Lib.hid (HTAKE.out ⟨HBB.out, hlo⟩)
                  clear hlo HSKIP HTAKE
                  go_wp2_with fail
                  have hm0' : (List.range m).map (sRow N (looseB es) X s) = (List.range m).map (mRow N (looseB es) X s s' 0) := mapR_congr fun i _ => (mRow_0 i).symm
                  have HO4 : Hid (Own w3 S 2 1 icell (some ⟨R, 0, none⟩) m ((List.range m).map (mRow N (looseB es) X s s' 0))) := Lib.hid (by rw [← hm0']; exact HO3.out)
                  clear hm0' HO3
                  go_loopw [10] (fun s10 w4 => ∃ j : Nat, j ≤ N ∧ s10 = .int .i64 j ∧ Below S w w4 ∧ Blk w4 S 33 #[.int .i64 N, .slice A n c] ∧ Tb w4 S G P m k q (fun k j => TS N (looseB es) j (nw k)) ∧ Own w4 S 2 1 icell (some ⟨R, 0, none⟩) m ((List.range m).map (mRow N (looseB es) X s s' j))) (fun s10 _ => N - (intOf s10).toNat)
                  case atStart => exact ⟨0, Nat.zero_le _, rfl, HB3.out, HK3.out, HT3.out, HO4.out⟩
                  case round =>
                    clear HB3 HK3 HT3 HO4
                    rename World => w4
                    obtain ⟨j, hj, rfl, hb, hkb, htb, hown⟩ := hrel
                    have HB := Lib.hid hb
                    have HKB := Lib.hid hkb
                    have HTB := Lib.hid htb
                    by_cases hjn : j < N
                    · obtain ⟨j1, hj1⟩ : ∃ j1, j1 = j + 1 := ⟨_, rfl⟩
                      have hz0 := wN_nonneg (wBut X y)
                      have hzq : (wN (wBut X y)).toNat = (wBut X y).toNat := rfl
                      have hzP : wN (wBut X y) < (P : Int) := by
                        have : wN (wBut X y) = ((wBut X y).toNat : Int) := rfl
                        omega
                      obtain ⟨a, ha⟩ : ∃ a, a = TS N (looseB es) j (wBut X y) := ⟨_, rfl⟩
                      obtain ⟨v, hv⟩ : ∃ v, v = sRow N (looseB es) X s j1 := ⟨_, rfl⟩
                      obtain ⟨y0, y1⟩ := htb.at_ (i := (wBut X y).toNat) (j := j) hql hkP (by omega)
                      rw [nw_toNat, ← ha] at y1
                      rw [← hzq] at y0 y1
                      have hjl : j1 < ((List.range m).map (mRow N (looseB es) X s s' j)).length := by rw [mapR_len]; omega
                      obtain ⟨g1, hg1, _, _, y2, f2⟩ := hown.cell1 (f := fun x : Int => .int .i64 x) (k := j1) hjl
                      obtain rfl : R = g1 := by simpa using hg1
                      rw [mapR_get] at y2
                      have hmv : mRow N (looseB es) X s s' j j1 = v := by rw [hj1, mRow_at, hv, hj1]
                      rw [hmv] at y2
                      have hnv : v + a = sRow N (looseB es) X s' j1 := by rw [hj1, HTK.out j, hv, ha, hj1]
                      have hbd := HINN.out j1 (by omega)
                      rw [← hnv] at hbd
                      have hwr : IntKind.i64.wrap (v + a) = v + a := wrap_in (by omega)
                      have hput := hown.put1 (f := fun x : Int => .int .i64 x) (k := j1) (x := v + a) hjl
                      have hlist : ((List.range m).map (mRow N (looseB es) X s s' j)).set j1 (v + a) = (List.range m).map (mRow N (looseB es) X s s' j1) := by
                        rw [mapR_set, hnv]
                        refine mapR_congr fun i _ => ?_
                        rw [hj1]
                        exact mRow_succ
                      rw [hlist] at hput
                      have hw1 : IntKind.i64.wrap ((j : Int) + 1) = (j1 : Int) := by rw [wrap_in (by omega)]; omega
                      have hjm : (j1 : Int) < (m : Int) := by omega
                      have hjm0 : (0 : Int) ≤ (j1 : Int) := by omega
                      have hjm2 : (j : Int) < (m : Int) := by omega
                      have hjm3 : (0 : Int) ≤ (j : Int) := by omega
                      have HPUT := Lib.hid hput
                      have HJ1 := Lib.hid hj1
                      have hRB := HQR.out
                      clear hb hkb htb hown hput hlist hbd hnv hmv hg1 hzq ha hv hjl hj1 hRB
                      go_wp2_with fail
                      refine region_plain 19 20 (fun w' => w' = w4.drew) (by kernel_rfl) rfl ?_
                      refine anyC_reads (by kernel_rfl) [0, 1, 2, 3, 4, 5, 6, 7, 8, 9, 10, 11, 12, 13, 14, 15, 16, 17, 18] ?opc ?ohc 1 _ _ _ (by kernel_rfl) ?okc
                      case ohc => (simp only [List.filterMap_cons, List.filterMap_nil, List.getElem?_toArray, List.getElem?_cons_zero, List.getElem?_cons_succ]; try rfl)
                      repeat (
                        refine readC_step (v := ?_) rfl (fun w' hw' => ?_) ?_
                        rotate_left
                        focus (subst hw'; go_simp; try with_reducible rfl)
                        go_simp)
                      refine readC_nil ?_
                      refine anyC_one (i := 19) (by kernel_rfl) rfl rfl (.inr rfl) ?_
                      go_simp
                      refine anyC_end (by kernel_rfl) (.inl (by kernel_rfl)) ?_
                      go_wp2_with fail
                      go_roundw
                      case rel => exact ⟨j1, by have := HJ1.out; omega, rfl, (HB.out.setCell (p := ⟨R, j1, none⟩) (show S ≤ R by omega) _).drew, (HKB.out.far (p := ⟨R, j1, none⟩) (show S ≠ R by omega) _).drew, (HTB.out.far (p := ⟨R, j1, none⟩) (show G ≠ R by omega) (fun i hi => by have := HQR.out i hi; show q i ≠ R; omega) _).drew, HPUT.out.drew⟩
                      case measure => (have := HJ1.out; simp [intOf]; omega)
                    · obtain rfl : N = j := by omega
                      have hend : (List.range m).map (mRow N (looseB es) X s s' N) = (List.range m).map (sRow N (looseB es) X s') := by
                        apply List.map_congr_left
                        intro i hi
                        rw [List.mem_range] at hi
                        exact mRow_end (by have := HM.out; omega)
                      rw [hend] at hown
                      have HO := Lib.hid hown
                      clear hb hkb htb hown hend
                      go_wp2_with fail
                      go_roundw
                      case rel => exact ⟨s', by have := HS'.out; omega, HSUB.out, by rw [HNX.out], HB.out, HKB.out, HTB.out, HO.out⟩
                      case measure => (show (wN (wAnd (wSub y w1) X)).toNat < (wN y).toNat; rw [HNX.out, HY.out, wN_nw (by have := HS'.out; omega), wN_nw (by omega)]; have := HS'.out; omega)
    · have hkp : P = k := by omega
      have hge : ¬ wN (nw k) < (P : Int) := by rw [hwk]; omega
      obtain ⟨X, hX⟩ : ∃ X, X = nw k := ⟨_, rfl⟩
      rw [← hX] at hge ⊢
      obtain ⟨p1, hp1⟩ : ∃ p1, p1 = P - 1 := ⟨_, rfl⟩
      obtain ⟨y0, _⟩ := htb.at_ (i := p1) (j := 0) (by omega) hkP (by omega)
      have hrow := htb.row p1 (by omega)
      have hlast : nw p1 = maskW N := by rw [hp1, HP.out]; exact nw_mask hN10
      rw [hlast] at hrow
      have HROW := Lib.hid hrow
      have hpw : IntKind.i64.wrap ((P : Int) - 1) = (p1 : Int) := by rw [wrap_in (by omega)]; omega
      have hp0 : (0 : Int) ≤ (p1 : Int) := by omega
      have hpl : (p1 : Int) < (P : Int) := by omega
      clear hX hwk hlast hb hkb htb hrow hp1 hkp
      go_wp2_with fail
      refine bodyPost_ret (v := .slice (some ⟨q p1, 0, none⟩) m m) (by simp [results, Tryd.results40, go_sem]) rfl ?_
      rw [← HS.out]
      exact ⟨q p1, rfl, HB.out, HROW.out⟩
end Go.Proofs.YtokmialpclcodaaDoor
