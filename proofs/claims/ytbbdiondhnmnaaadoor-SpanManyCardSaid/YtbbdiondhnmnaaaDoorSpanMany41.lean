/- The reference's count of all forests: the walk. Conditions: the graph is one, its edges read as a list. -/
import Derived.Test.YtbbdiondhnmnaaaDoorSpanMany37
import Derived.Test.YtbbdiondhnmnaaaDoorSpanMany40
namespace Go.Proofs.YtbbdiondhnmnaaaDoor
open Go.RowKit Go.Shelf
attribute [local go_sem ↓] w_and w_or w_xor w_andNot w_and1 w_and255 w_xor1 w_or0 w_shl w_shl1 w_shr w_sub w_add w_sub1 w_add1
attribute [local go_sem] w_eq0 w_ne0 w_eq1 w_eq w_ne

theorem tpw_wrap {N : Nat} (h : N ≤ 10) : wrap64 ((2 : Int) ^ N) = ((2 ^ N : Nat) : Int) ∧ IntKind.i64.wrap ((2 : Int) ^ N) = ((2 ^ N : Nat) : Int) := by
  have : ∀ i : Fin 11, wrap64 ((2 : Int) ^ i.val) = ((2 ^ i.val : Nat) : Int) ∧ IntKind.i64.wrap ((2 : Int) ^ i.val) = ((2 ^ i.val : Nat) : Int) := by decide +kernel
  exact this ⟨N, by omega⟩
theorem twrp {x : Int} (h : -9000000000000000000 ≤ x ∧ x ≤ 9000000000000000000) : IntKind.i64.wrap x = x := IntWalk.i64_in _ (by omega)
/-- The table up to a word. -/
def tL (w : Nat → Nat → Int) (N P k : Nat) : List Int := (List.range P).map fun t => if t < k then trT w N t else 0
section
variable {w : Nat → Nat → Int} {N P : Nat} {l : List Ed}
theorem trT_0 (w : Nat → Nat → Int) (N : Nat) : trT w N 0 = 0 := by
  unfold trT
  rw [bn_zero]
  rfl
theorem tL_1 : List.replicate P (0 : Int) = tL w N P 1 := by
  unfold tL
  apply List.ext_getElem
  · simp
  · intro i h1 h2
    rw [mapR_get, List.getElem_replicate]
    split
    · rw [show i = 0 by omega, trT_0]
    · rfl
theorem tL_len (k : Nat) : (tL w N P k).length = P := mapR_len _ _
theorem tL_set (k : Nat) : (tL w N P k).set k (trT w N k) = tL w N P (k + 1) := by
  unfold tL
  rw [mapR_set]
  refine mapR_congr fun j _ => ?_
  by_cases e : j = k
  · rw [if_pos e, if_pos (by omega), e]
  · rw [if_neg e]
    by_cases h : j < k
    · rw [if_pos h, if_pos (by omega)]
    · rw [if_neg h, if_neg (by omega)]
theorem tL_at {k i : Nat} (h : i < k) (hi : i < (tL w N P k).length) : (tL w N P k)[i] = trT w N i := by
  simp only [tL, List.getElem_map, List.getElem_range, if_pos h]
theorem pop_bn {s : Nat} (hN : N ≤ 32) (hs : s < 2 ^ N) : pop (nw s) = (bn s N).length := by
  rw [(bn_bits hN hs).length_eq]
  unfold pop popTo bitsL
  rw [List.countP_eq_length_filter]
/-- A word of one node. -/
theorem trT_one {s : Nat} (h : (bn s N).length = 1) : trT w N s = 1 := by
  unfold trT
  match bn s N, h with
  | [r], _ => rfl
theorem two_parts (hg : GoodG N l) {s a : Nat} (hs : s < 2 ^ N) (ha : a &&& s = a) : 0 ≤ trT (wL l) N a * trT (wL l) N (s - a) ∧ trT (wL l) N a * trT (wL l) N (s - a) ≤ 3486784401 := by
  have h1 := hg.trT_le a
  have h2 := hg.trT_le (s - a)
  have n1 := trT_nn (wL_nn l) N a
  have n2 := trT_nn (wL_nn l) N (s - a)
  have hp := (bn_parts hs ha).length_eq
  rw [List.length_append] at hp
  have h3 := nine_pow (k := (bn s N).length) (by have := bn_len s N; have := hg.n10; omega)
  rw [← hp, Int.pow_add] at h3
  have h4 : (0 : Int) ≤ 9 ^ (bn a N).length := Int.pow_nonneg (by omega)
  exact ⟨Int.mul_nonneg n1 n2, Int.le_trans (Int.le_trans (Int.mul_le_mul_of_nonneg_right h1 n2) (Int.mul_le_mul_of_nonneg_left h2 h4)) h3⟩
theorem trF_take {s a : Nat} (h : a &&& s = a) : sg (trF w N s) (a + 1) = sg (trF w N s) a + trT w N a * trT w N (s - a) * ee w (bn a N) (bn (s - a) N) := by
  rw [sg]
  congr 1
  unfold trF
  rw [if_pos h, Int.mul_assoc]
theorem trF_skip {s a : Nat} (h : ¬ a &&& s = a) : sg (trF w N s) (a + 1) = sg (trF w N s) a := by
  rw [sg]
  unfold trF
  rw [if_neg h, Int.add_zero]
theorem sg_nn {f : Nat → Int} (h : ∀ a, 0 ≤ f a) : ∀ n, 0 ≤ sg f n
  | 0 => Int.le_refl _
  | n + 1 => by
    have := sg_nn h n
    have := h n
    rw [sg]; omega
theorem trF_in (hg : GoodG N l) {s a : Nat} (hs : s < 2 ^ N) (h0 : 0 < s) (ha : a ≤ s) : 0 ≤ sg (trF (wL l) N s) a ∧ sg (trF (wL l) N s) a ≤ 69735688020 := by
  refine ⟨sg_nn (trF_nn (wL_nn l) N s) a, Int.le_trans (sg_mono (trF_nn (wL_nn l) N s) a s ha) ?_⟩
  rw [trF_sum (wL_symm l) hs h0]
  have h1 := hg.trT_small s
  have h2 := bn_len s N
  have h3 := hg.n10
  have h4 := Int.mul_le_mul_of_nonneg_right (show 2 * (((bn s N).length : Int) - 1) ≤ 20 by omega) h1.1
  omega
end
theorem parts_fn {l : List Ed} {L : List Int} (h : PartsL l L) : ∃ p : Nat → Nat, ∀ j, j < L.length → IsPart l j (p j) ∧ L.getD j 0 = (p j : Int) := by
  refine ⟨fun j => (L.getD j 0).toNat, fun j hj => ?_⟩
  obtain ⟨q, h1, h2⟩ := h j hj
  simp only [h1, Int.toNat_natCast]
  exact ⟨h2, trivial⟩
set_option maxRecDepth 100000 in
set_option maxHeartbeats 2000000 in
theorem ref_Many (N n c : Nat) (A : Option Addr) (l : List Ed) (w : World) (hl : l.length = n) (hg : GoodG N l) (hr : Els w w.heap.size 3 Ed.cells A l) :
    Calls Tryd.prog 6 #[.agg #[.int .i64 N, .slice A n c]] w fun e w' => (∃ p : Nat → Nat, (∀ j, j < N → IsPart l j (p j)) ∧ e = .returned (.int .i64 (rP (wL l) p N N))) ∧ Below w.heap.size w w' := by
  have hN10 := hg.n10
  have hn45 : n ≤ 45 := by rw [← hl]; exact hg.m45
  obtain ⟨S, hS⟩ : ∃ S, S = w.heap.size := ⟨_, rfl⟩
  have b0 := Blk.new w 24 #[.int .i64 N, .slice A n c]
  have c0 := b0.cell 0
  have c1 := b0.cell 1
  obtain ⟨W1, hW1⟩ : ∃ W1, W1 = w.alloc (.cells #[.int .i64 N, .slice A n c] 24) := ⟨_, rfl⟩
  have hb1 : Below S w W1 := by rw [hW1, hS]; exact (Below.refl _ w).alloc (Nat.le_refl _) _
  have hz1 : W1.heap.size = S + 1 := by rw [hW1, size_alloc', hS]
  rw [← hW1, ← hS] at b0
  rw [← hS] at hr
  have HR := Lib.hid hr
  have HB0 := Lib.hid b0
  have HB1 := Lib.hid hb1
  have HL := Lib.hid hl
  have HG := Lib.hid hg
  have HW1 := Lib.hid hW1
  have HS := Lib.hid hS
  obtain ⟨P, hP⟩ : ∃ P, P = 2 ^ N := ⟨_, rfl⟩
  have hP1 : 1 ≤ P := by rw [hP]; exact Nat.one_le_two_pow
  have hP2 : P ≤ 1024 := by rw [hP]; exact Nat.pow_le_pow_right (n := 2) (by omega) (show N ≤ 10 from hN10)
  have HP := Lib.hid hP
  have hpn := (tpw_wrap (N := N) hN10).1
  have hpi := (tpw_wrap (N := N) hN10).2
  rw [← hP] at hpn hpi
  rw [← hS]
  clear hr b0 hb1 hl hg hW1 hS hP
  go_enter Tryd.func6, Tryd.ntmps6
  go_wp2_with (at_make; go_loud (
     refine wpList_make1 rfl _ _ _ rfl (S + 1) 2 8 (fun x : Int => .int .i64 x) 0 Tryd.underlying32 (by kernel_rfl) rfl _ .i64 .i64 P rfl rfl (by omega) (by unfold maxLen; omega) (by rw [size_alloc']; have := HS.out; omega) ?_
     intro v3 hown3 hgrow3))
  rw [← HW1.out] at hgrow3
  rw [← HS.out]
  have hb3 := HB1.out.grown hgrow3 (by omega) (fun g hg => by cases hg)
  have hk3 := HB0.out.grown hgrow3 (by simp)
  obtain ⟨R, hRR⟩ : ∃ R, R = S + 1 := ⟨_, rfl⟩
  rw [← HW1.out, hz1, ← hRR] at hown3
  rw [← hRR]
  rw [tL_1 (w := wL l) (N := N)] at hown3
  have hSR : S < R := by omega
  have hRS : R ≤ S + 1 := by omega
  have HB3 := Lib.hid hb3
  have HK3 := Lib.hid hk3
  have HO3 := Lib.hid hown3
  clear hb3 hk3 hown3 hgrow3 hz1 hRR HB1 HB0 HW1 c0 c1
  go_loopw [4] (fun s4 wr => ∃ k : Nat, 1 ≤ k ∧ k ≤ P ∧ s4 = .int .i64 k ∧ Below S w wr ∧ Blk wr S 24 #[.int .i64 N, .slice A n c] ∧ Own wr R 2 1 icell (some ⟨R, 0, none⟩) P (tL (wL l) N P k)) (fun s4 _ => P - (intOf s4).toNat)
  case atStart => exact ⟨1, Nat.le_refl _, hP1, rfl, HB3.out, HK3.out, HO3.out⟩
  case round =>
    clear HB3 HK3 HO3
    rename World => wr
    obtain ⟨s, hs1, hsP, rfl, hb, hkb, ho⟩ := hrel
    have hz := hb.size
    rw [← HS.out] at hz
    by_cases hlt : s < P
    · obtain ⟨x, hx⟩ : ∃ x, x = nw s := ⟨_, rfl⟩
      have hwx : IntKind.u32.wrap (s : Int) = wN x := by
        rw [hx, wN_nw (by omega)]
        have h : ∀ i : Fin 1025, IntKind.u32.wrap ((i.val : Nat) : Int) = (i.val : Int) := by decide +kernel
        exact h ⟨s, by omega⟩
      have hpop : pop x = (bn s N).length := by rw [hx]; exact pop_bn (by omega) (by rw [← HP.out]; exact hlt)
      obtain ⟨m, hm⟩ : ∃ m, m = pop x := ⟨_, rfl⟩
      have hmb : m = (bn s N).length := by rw [hm, hpop]
      have hm10 : m ≤ 10 := by rw [hmb]; have := bn_len s N; omega
      have hm1 : 1 ≤ m := by
        have hne := bn_ne (n := N) (by rw [← HP.out]; exact hlt) hs1
        rw [hmb]
        cases hq : bn s N with
        | nil => exact absurd hq hne
        | cons _ _ => simp
      have HM := Lib.hid hm
      have HMB := Lib.hid hmb
      have HX := Lib.hid hx
      have HB := Lib.hid hb
      have HKB := Lib.hid hkb
      have HO := Lib.hid ho
      have hsl : s < (tL (wL l) N P s).length := by rw [tL_len]; exact hlt
      obtain ⟨g1, hg1, _, _, y0', f0⟩ := ho.cell1 (f := fun x : Int => .int .i64 x) (k := s) hsl
      obtain rfl : R = g1 := by simpa using hg1
      obtain ⟨z0, y0⟩ : ∃ z, wr.cell? ⟨R, s, none⟩ = some z := ⟨_, y0'⟩
      have hput := ho.put1 (f := fun x : Int => .int .i64 x) (k := s) (x := trT (wL l) N s) hsl
      rw [tL_set] at hput
      have HPUT := Lib.hid hput
      have HY0 := Lib.hid y0
      have HF0 := Lib.hid f0
      clear hx hpop hm hmb hb hkb ho hput hg1 y0' hsl y0 f0
      by_cases hone : m = 1
      · have hT : trT (wL l) N s = 1 := trT_one (by rw [← HMB.out]; exact hone)
        rw [hT] at HPUT
        have heq : ((m : Int) == 1) = true := by rw [hone]; rfl
        have y0 := HY0.out
        have f0 := HF0.out
        clear hone hT
        go_wp2_with fail
        refine (Size_any x _).mono ?_
        rintro _ w' ⟨rfl, rfl⟩
        rw [← HM.out]
        go_wp2_with fail
        go_roundw
        case rel => exact ⟨s + 1, by omega, by omega, by go_num, HB.out.setCell (p := ⟨R, s, none⟩) (show S ≤ R by omega) _, HKB.out.far (p := ⟨R, s, none⟩) (show S ≠ R by omega) _, HPUT.out⟩
        case measure => (simp [intOf]; omega)
      · have heq : ((m : Int) == 1) = false := by rw [beq_eq_false_iff_ne]; omega
        have hm2 : 2 ≤ m := by omega
        clear hone
        go_wp2_with fail
        refine (Size_any x _).mono ?_
        rintro _ w' ⟨rfl, rfl⟩
        rw [← HM.out]
        go_wp2_with fail
        clear HY0 HF0 HPUT
        go_loopw [6, 7] (fun s6 s7 w2 => ∃ a : Nat, 1 ≤ a ∧ a ≤ s ∧ s6 = .int .i64 (sg (trF (wL l) N s) a) ∧ s7 = .int .i64 a ∧ Below S w w2 ∧ Blk w2 S 24 #[.int .i64 N, .slice A n c] ∧ Own w2 R 2 1 icell (some ⟨R, 0, none⟩) P (tL (wL l) N P s)) (fun _ s7 _ => s - (intOf s7).toNat)
        case atStart => exact ⟨1, Nat.le_refl _, hs1, by rw [trF_0], rfl, HB.out, HKB.out, HO.out⟩
        case round =>
          clear HB HKB HO
          rename World => w2
          obtain ⟨a, ha1, has, rfl, rfl, hb, hkb, ho⟩ := hrel
          have hz2 := hb.size
          rw [← HS.out] at hz2
          have hlt' : s < 2 ^ N := by rw [← HP.out]; exact hlt
          by_cases hlta : a < s
          · have hand := n_and a s (by omega) (by omega)
            obtain ⟨d, hd⟩ : ∃ d, d = nAnd a s := ⟨_, rfl⟩
            rw [← hd] at hand
            obtain ⟨a1, ha1'⟩ : ∃ a1, a1 = a + 1 := ⟨_, rfl⟩
            have hwa : IntKind.i64.wrap ((a : Int) + 1) = (a1 : Int) := by rw [twrp (by omega)]; omega
            have hb1 := trF_in HG.out hlt' (show 0 < s by omega) (a := a) (by omega)
            have hb2 := trF_in HG.out hlt' (show 0 < s by omega) (a := a1) (by omega)
            by_cases hda : d = a
            · have hda' : a &&& s = a := by
                have e : nAnd a s = a := by rw [← hd, hda]
                exact e
              have htk := trF_take (w := wL l) (N := N) hda'
              have hbe := between_is HG.out hlt' hda'
              have htp := two_parts HG.out hlt' hda'
              obtain ⟨b, hb'⟩ : ∃ b, b = s - a := ⟨_, rfl⟩
              rw [← ha1', hbe] at htk
              rw [← hb'] at htk htp
              obtain ⟨xa, hxa⟩ : ∃ xa, xa = nw a := ⟨_, rfl⟩
              obtain ⟨xb, hxb⟩ : ∃ xb, xb = nw b := ⟨_, rfl⟩
              rw [← hxa, ← hxb] at htk
              have hu32 : ∀ i : Fin 1025, IntKind.u32.wrap ((i.val : Nat) : Int) = (i.val : Int) := by decide +kernel
              have hwxa : IntKind.u32.wrap (a : Int) = wN xa := by rw [hxa, wN_nw (by omega)]; exact hu32 ⟨a, by omega⟩
              have hwxb : IntKind.u32.wrap (b : Int) = wN xb := by rw [hxb, wN_nw (by omega)]; exact hu32 ⟨b, by omega⟩
              have hwb : IntKind.i64.wrap ((s : Int) - (a : Int)) = (b : Int) := by rw [twrp (by omega)]; omega
              obtain ⟨q, hq⟩ : ∃ q, q = sg (trF (wL l) N s) a := ⟨_, rfl⟩
              obtain ⟨q', hq'⟩ : ∃ q', q' = sg (trF (wL l) N s) a1 := ⟨_, rfl⟩
              obtain ⟨ta, hta⟩ : ∃ ta, ta = trT (wL l) N a := ⟨_, rfl⟩
              obtain ⟨tb, htb⟩ : ∃ tb, tb = trT (wL l) N b := ⟨_, rfl⟩
              obtain ⟨bt, hbt⟩ : ∃ bt, bt = l.countP (btB xa xb) := ⟨_, rfl⟩
              obtain ⟨tab, htab⟩ : ∃ tab, tab = ta * tb := ⟨_, rfl⟩
              obtain ⟨tt, htt⟩ : ∃ tt, tt = tab * (bt : Int) := ⟨_, rfl⟩
              rw [← hta, ← htb, ← htab] at htp
              rw [← hq, ← hq', ← hta, ← htb, ← htab, ← hbt, ← htt] at htk
              rw [← hq] at hb1 ⊢
              rw [← hq'] at hb2
              have w1 : IntKind.i64.wrap (ta * tb) = tab := by rw [← htab]; exact twrp (by omega)
              have w2' : IntKind.i64.wrap (tab * (bt : Int)) = tt := by rw [← htt]; exact twrp (by omega)
              have w3' : IntKind.i64.wrap (q + tt) = q' := by rw [← htk]; exact twrp (by omega)
              have has' : (a : Int) < (P : Int) := by omega
              have hbs' : (b : Int) < (P : Int) := by omega
              have haP : a < P := by omega
              have hbP : b < P := by omega
              have HCA : Hid (∀ w', Below w2.heap.size w2 w' → w'.cell? ⟨R, a, none⟩ = some (.int .i64 ta) ∧ w'.cell? ⟨R, b, none⟩ = some (.int .i64 tb)) := Lib.hid (fun w' hw' => by
                have ho' := ho.below hw' (Nat.le_refl _)
                have hla : a < (tL (wL l) N P s).length := by rw [tL_len]; exact haP
                have hlb : b < (tL (wL l) N P s).length := by rw [tL_len]; exact hbP
                obtain ⟨g1, hg1, _, _, y1, _⟩ := ho'.cell1 (f := fun x : Int => .int .i64 x) (k := a) hla
                obtain ⟨g2, hg2, _, _, y2, _⟩ := ho'.cell1 (f := fun x : Int => .int .i64 x) (k := b) hlb
                obtain rfl : R = g1 := by simpa using hg1
                obtain rfl : R = g2 := by simpa using hg2
                rw [tL_at (by omega)] at y1 y2
                rw [hta, htb]
                exact ⟨y1, y2⟩)
              have HBT : Hid (∀ v, Below S w v → Calls Tryd.prog 14 #[.agg #[.int .i64 N, .slice A n c], .int .u32 (wN xa), .int .u32 (wN xb)] v fun e w' => e = .returned (.int .i64 bt) ∧ Below v.heap.size v w') := Lib.hid (fun v hv => by
                rw [hbt]
                exact ref_between N xa xb A n c l v HL.out hn45 ((HR.out.below hv).more (by have := hv.size; rw [← HS.out] at this; exact this)))
              have heq : ((d : Int) == (a : Int)) = true := by rw [hda]; simp
              have hltk : S < w2.heap.size := hkb.lt
              have HA1 := Lib.hid ha1'
              have HQ' := Lib.hid hq'
              have HB := Lib.hid hb
              have HKB := Lib.hid hkb
              have HO := Lib.hid ho
              clear hb hkb ho htk hbe htp hq hq' hta htb hbt htab htt hda hda' hd ha1' hlt' hxa hxb hb' hu32 hb1 hb2
              go_wp2_with fail
              refine region_plain 22 23 (fun w' => Below w2.heap.size w2 w') (by kernel_rfl) rfl ?_
              refine anyC_reads (by kernel_rfl) [0, 1, 2, 3, 4, 5, 6, 7, 8, 9, 10, 11, 12, 13, 14, 15, 16, 17, 18] ?opz ?ohz 4 _ _ _ (by kernel_rfl) ?okz
              case ohz => (simp only [List.filterMap_cons, List.filterMap_nil, List.getElem?_toArray, List.getElem?_cons_zero, List.getElem?_cons_succ]; try rfl)
              repeat (
                refine readC_step (v := ?_) rfl (fun w' hw' => ?_) ?_
                rotate_left
                focus (have p0 := (HKB.out.below hw' hltk).cell 0; have p1 := (HKB.out.below hw' hltk).cell 1; have p2 := (HCA.out w' hw').1; have p3 := (HCA.out w' hw').2; go_simp; try with_reducible rfl)
                go_simp)
              refine readC_nil ?_
              refine anyC_one (i := 19) (by kernel_rfl) rfl rfl (.inr (Below.refl _ w2).drew) ?_
              go_simp
              refine (HBT.out w2.drew HB.out.drew).mono ?_
              rintro e v3 ⟨rfl, hb3⟩
              have hb3' : Below w2.heap.size w2 v3 := ((Below.refl _ w2).drew).trans hb3
              have HB3 := Lib.hid hb3'
              clear hb3 hb3'
              refine anyC_one (i := 20) (by kernel_rfl) rfl rfl (.inr HB3.out) ?_
              go_simp
              refine anyC_one (i := 21) (by kernel_rfl) rfl rfl (.inr HB3.out) ?_
              go_simp
              refine anyC_one (i := 22) (by kernel_rfl) rfl rfl (.inr HB3.out) ?_
              go_simp
              refine anyC_end (by kernel_rfl) (.inl rfl) ?_
              go_wp2_with fail
              go_roundw
              case rel => exact ⟨a1, by have := HA1.out; omega, by have := HA1.out; omega, by rw [HQ'.out], rfl, HB.out.trans (HB3.out.mono hz2), HKB.out.below HB3.out hltk, HO.out.below HB3.out (Nat.le_refl _)⟩
              case measure => (have := HA1.out; simp [intOf]; omega)
            · have hda' : ¬ a &&& s = a := fun e => hda (by rw [hd]; exact e)
              have hsk := trF_skip (w := wL l) (N := N) hda'
              rw [← ha1'] at hsk
              obtain ⟨q, hq⟩ : ∃ q, q = sg (trF (wL l) N s) a := ⟨_, rfl⟩
              rw [← hq] at hsk hb1 ⊢
              have hne : ((d : Int) == (a : Int)) = false := by rw [beq_eq_false_iff_ne]; omega
              have HSK := Lib.hid hsk
              have HA1 := Lib.hid ha1'
              have HB := Lib.hid hb
              have HKB := Lib.hid hkb
              have HO := Lib.hid ho
              clear hb hkb ho hsk hq hda hda' hd ha1' hlt'
              go_wp2_with fail
              go_roundw
              case rel => exact ⟨a1, by have := HA1.out; omega, by have := HA1.out; omega, by rw [HSK.out], rfl, HB.out, HKB.out, HO.out⟩
              case measure => (have := HA1.out; simp [intOf]; omega)
          · obtain rfl : s = a := by omega
            have hsum := trF_sum (wL_symm l) hlt' (show 0 < s by omega)
            rw [← HMB.out] at hsum
            have hT := HG.out.trT_small s
            have hsl : s < (tL (wL l) N P s).length := by rw [tL_len]; exact hlt
            obtain ⟨g1, hg1, _, _, y0', f0⟩ := ho.cell1 (f := fun x : Int => .int .i64 x) (k := s) hsl
            obtain rfl : R = g1 := by simpa using hg1
            obtain ⟨z0, y0⟩ : ∃ z, w2.cell? ⟨R, s, none⟩ = some z := ⟨_, y0'⟩
            have hput := ho.put1 (f := fun x : Int => .int .i64 x) (k := s) (x := trT (wL l) N s) hsl
            rw [tL_set] at hput
            obtain ⟨q, hq⟩ : ∃ q, q = sg (trF (wL l) N s) s := ⟨_, rfl⟩
            obtain ⟨T, hTT⟩ : ∃ T, T = trT (wL l) N s := ⟨_, rfl⟩
            obtain ⟨m1, hm1'⟩ : ∃ m1, m1 = m - 1 := ⟨_, rfl⟩
            obtain ⟨q2, hq2⟩ : ∃ q2, q2 = (m1 : Int) * T := ⟨_, rfl⟩
            rw [← hTT] at hput hT hsum
            rw [← hq] at hsum ⊢
            have e1 : q = 2 * q2 := by
              rw [hsum, hq2, Int.mul_assoc]
              congr 2
              omega
            have e2 : q.tdiv 2 = q2 := by rw [e1]; exact Int.mul_tdiv_cancel_left _ (by omega)
            have e3 : q2.tdiv (m1 : Int) = T := by rw [hq2]; exact Int.mul_tdiv_cancel_left _ (by omega)
            have hqb := trF_in HG.out hlt' (show 0 < s by omega) (a := s) (Nat.le_refl _)
            rw [← hq] at hqb
            have w1 : IntKind.i64.wrap (q.tdiv 2) = q2 := by rw [e2]; exact twrp (by omega)
            have w2' : IntKind.i64.wrap ((m : Int) - 1) = (m1 : Int) := by rw [twrp (by omega)]; omega
            have w3' : IntKind.i64.wrap (q2.tdiv (m1 : Int)) = T := by rw [e3]; exact twrp (by omega)
            have hm0 : ((m1 : Int) == 0) = false := by rw [beq_eq_false_iff_ne]; omega
            have hm0' : (m1 : Int) ≠ 0 := by omega
            have HB := Lib.hid hb
            have HKB := Lib.hid hkb
            have HPUT := Lib.hid hput
            clear hb hkb ho hput hg1 y0' hsl hsum hT hq hTT hm1' hq2 e1 e2 e3 hqb hlt'
            go_wp2_with fail
            go_roundw
            case rel => exact ⟨s + 1, by omega, by omega, by go_num, HB.out.setCell (p := ⟨R, s, none⟩) (show S ≤ R by omega) _, HKB.out.far (p := ⟨R, s, none⟩) (show S ≠ R by omega) _, HPUT.out⟩
            case measure => (simp [intOf]; omega)
    · obtain rfl : P = s := by omega
      have c0 := hkb.cell 0
      have c1 := hkb.cell 1
      have HB := Lib.hid hb
      have HKB := Lib.hid hkb
      have HO := Lib.hid ho
      have HPA := Lib.hid (ref_Parts N A n c l wr HL.out HG.out ((HR.out.below HB.out).more (by have := HS.out; omega)))
      clear hb hkb ho
      go_wp2_with fail
      refine HPA.out.mono ?_
      clear HPA
      rintro e v3 ⟨A2, c2, L, rfl, hb3, hLl, hpl, hels⟩
      have hk3 := HKB.out.below hb3 HKB.out.lt
      have c0 := hk3.cell 0
      have ho3 := HO.out.below hb3 (Nat.le_refl _)
      have HB3 := Lib.hid (HB.out.trans (hb3.mono hz))
      have HO3 := Lib.hid ho3
      obtain ⟨p, hp⟩ := parts_fn hpl
      have HPF := Lib.hid hp
      have HLL := Lib.hid hLl
      have HE := Lib.hid hels
      clear hb3 hLl hpl hels hk3 ho3 hp HB HKB HO
      go_wp2_with fail
      go_loop [10, 8] (fun s10 s8 => ∃ i : Nat, i ≤ N ∧ s10 = .int .i64 i ∧ s8 = .int .i64 (rP (wL l) p N i)) (fun s10 _ => N - (intOf s10).toNat)
      case atStart => exact ⟨0, Nat.zero_le _, rfl, rfl⟩
      case round =>
        obtain ⟨i, hi, rfl, rfl⟩ := hrel
        by_cases hlti : i < N
        · obtain ⟨u, hu⟩ : ∃ u, u = rP (wL l) p N i := ⟨_, rfl⟩
          have HU := Lib.hid hu
          rw [← hu]
          clear hu
          go_wp2_with fail
          go_loop [12, 11] (fun s12 s11 => ∃ j : Nat, j ≤ N ∧ s12 = .int .i64 j ∧ s11 = .int .i64 (mkS (fun j => decide (p j = i)) j : Nat)) (fun s12 _ => N - (intOf s12).toNat)
          case atStart => exact ⟨0, Nat.zero_le _, rfl, rfl⟩
          case round =>
            obtain ⟨j, hj, rfl, rfl⟩ := hrel
            have hmk := mkS_lt (fun j => decide (p j = i)) j
            obtain ⟨d, hd⟩ : ∃ d, d = mkS (fun j => decide (p j = i)) j := ⟨_, rfl⟩
            rw [← hd] at hmk ⊢
            by_cases hltj : j < N
            · have hjl : j < L.length := by rw [HLL.out]; exact hltj
              obtain ⟨b4, o4, rfl, _, g4⟩ := HE.out.at1 hjl
              have hpj := (HPF.out j hjl).2
              rw [getD_at L j hjl] at hpj
              rw [hpj] at g4
              have hj9 : j ≤ 9 := by omega
              obtain ⟨e, he⟩ : ∃ e, e = 2 ^ j := ⟨_, rfl⟩
              have he1024 : e ≤ 512 := by rw [he]; exact Nat.pow_le_pow_right (n := 2) (by decide) hj9
              rw [← he] at hmk
              have hadd : IntKind.i64.wrap ((d : Int) + (e : Int)) = ((d + e : Nat) : Int) := by
                clear hpn hpi
                rw [twrp (by omega)]; omega
              have hp2 := tpw_wrap (N := j) (Nat.le_succ_of_le hj9)
              rw [← he] at hp2
              have hp2a := hp2.1
              have hp2b := hp2.2
              obtain ⟨pj, hpj'⟩ : ∃ pj, pj = p j := ⟨_, rfl⟩
              rw [← hpj'] at g4
              by_cases hpi : pj = i
              · have heq : ((pj : Int) == (i : Int)) = true := by rw [hpi]; simp
                have hnx : Hid ((d + e : Nat) = mkS (fun j => decide (p j = i)) (j + 1)) := Lib.hid (by
                  rw [mkS, ← hd, he, if_pos (by rw [← hpj', hpi]; simp)])
                clear hpj hpj' hpi he hd hp2
                go_wp2_with fail
                go_round
                case rel => exact ⟨j + 1, hltj, by go_num, by rw [← hnx.out, Int.natCast_add]⟩
                case measure => (simp [intOf]; omega)
              · have heq : ((pj : Int) == (i : Int)) = false := by rw [beq_eq_false_iff_ne]; omega
                have hnx : Hid (d = mkS (fun j => decide (p j = i)) (j + 1)) := Lib.hid (by
                  rw [mkS, ← hd, if_neg (by rw [← hpj']; simpa using hpi)]; omega)
                clear hpj hpj' hpi he hd hp2
                go_wp2_with fail
                go_round
                case rel => exact ⟨j + 1, hltj, by go_num, by rw [← hnx.out]⟩
                case measure => (simp [intOf]; omega)
            · obtain rfl : N = j := by omega
              rw [← HP.out] at hmk
              have hds : d = sP p N i := hd
              have hrp : rP (wL l) p N (i + 1) = if 0 < d then u * trT (wL l) N d else u := by rw [rP, ← hds, ← HU.out]
              have hrs := rP_small HG.out p (i + 1)
              have hdl : d < (tL (wL l) N P P).length := by rw [tL_len]; exact hmk
              obtain ⟨g1, hg1, _, _, y0, _⟩ := HO3.out.cell1 (f := fun x : Int => .int .i64 x) (k := d) hdl
              obtain rfl : R = g1 := by simpa using hg1
              rw [tL_at hmk] at y0
              obtain ⟨T, hT⟩ : ∃ T, T = trT (wL l) N d := ⟨_, rfl⟩
              rw [← hT] at y0 hrp
              obtain ⟨i1, hi1⟩ : ∃ i1, i1 = i + 1 := ⟨_, rfl⟩
              have hwi : IntKind.i64.wrap ((i : Int) + 1) = (i1 : Int) := by rw [twrp (by omega)]; omega
              rw [← hi1] at hrp hrs
              have HI1 := Lib.hid hi1
              by_cases hd0 : 0 < d
              · rw [if_pos hd0] at hrp
                have hwr : IntKind.i64.wrap (u * T) = u * T := by rw [← hrp]; exact twrp (by omega)
                have HRP := Lib.hid hrp
                have hd0' : 0 < (d : Int) := by omega
                clear hd hds hrp hrs hdl hg1 hT hi1
                go_wp2_with fail
                go_round
                case rel => exact ⟨i1, by have := HI1.out; omega, rfl, by rw [HRP.out]⟩
                case measure => (have := HI1.out; simp [intOf]; omega)
              · rw [if_neg hd0] at hrp
                have HRP := Lib.hid hrp
                have hd0' : ¬ 0 < (d : Int) := by omega
                clear hd hds hrp hrs hdl hg1 hT hi1
                go_wp2_with fail
                go_round
                case rel => exact ⟨i1, by have := HI1.out; omega, rfl, by rw [HRP.out]⟩
                case measure => (have := HI1.out; simp [intOf]; omega)
        · obtain rfl : N = i := by omega
          go_wp2_with fail
          go_ret
          exact ⟨⟨p, fun j hj => (HPF.out j (by rw [HLL.out]; exact hj)).1, rfl⟩, HB3.out⟩
end Go.Proofs.YtbbdiondhnmnaaaDoor
