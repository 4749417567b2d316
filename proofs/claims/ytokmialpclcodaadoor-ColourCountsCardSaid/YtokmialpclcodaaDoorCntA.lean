/- Colourings counted: the program's closure. Conditions: the words read as a list, the row lies in one of its own; the table. -/
import Derived.Test.YtokmialpclcodaaDoorCntP
import Derived.Test.YtokmialpclcodaaDoorHueA
namespace Go.Proofs.YtokmialpclcodaaDoor
open Go.RowKit Go.Shelf
attribute [local go_sem] Oper.semAt_some
attribute [local go_sem ↓] w_and w_or w_xor w_andNot w_and1 w_and255 w_xor1 w_or0 w_shl w_shl1 w_shr w_sub w_add w_sub1 w_add1
attribute [local go_sem] w_eq0 w_ne0 w_eq1 w_eq w_ne

def lsum (t : Nat → Int) (l : List Nat) : Int := (l.map t).sum
theorem lsum_snoc (t : Nat → Int) (l : List Nat) (c : Nat) : lsum t (l ++ [c]) = lsum t l + t c := by simp [lsum]
theorem lsum_filter (t : Nat → Int) (p : Nat → Bool) : ∀ k, lsum t ((List.range k).filter p) = sm (fun c => if p c = true then t c else 0) k
  | 0 => rfl
  | k + 1 => by
    rw [List.range_succ, List.filter_append, sm_succ, ← lsum_filter t p k]
    cases h : p k with
    | true => simp [h, lsum]
    | false => simp [h, lsum]
theorem lsum_nn {t : Nat → Int} : ∀ {l : List Nat}, (∀ c ∈ l, 0 ≤ t c) → 0 ≤ lsum t l
  | [], _ => by simp [lsum]
  | c :: l, h => by
    have h1 := h c (by simp)
    have h2 := lsum_nn (t := t) (l := l) fun c' hc => h c' (by simp [hc])
    simp only [lsum, List.map_cons, List.sum_cons] at h2 ⊢
    omega
theorem lsum_pre {t : Nat → Int} {l z : List Nat} (h : ∀ c ∈ l ++ z, 0 ≤ t c) : 0 ≤ lsum t l ∧ lsum t l ≤ lsum t (l ++ z) := by
  have h1 := lsum_nn (t := t) (l := l) fun c hc => h c (by simp [hc])
  have h2 := lsum_nn (t := t) (l := z) fun c hc => h c (by simp [hc])
  have : lsum t (l ++ z) = lsum t l + lsum t z := by simp [lsum]
  omega
theorem pow12 {f : Nat} {k : Nat} (hk : k ≤ 12) (hf : f ≤ 10) : (k : Int) ^ f ≤ 61917364224 := by
  have : ∀ (a : Fin 13) (b : Fin 11), ((a.val : Nat) : Int) ^ b.val ≤ 61917364224 := by decide +kernel
  exact this ⟨k, by omega⟩ ⟨f, by omega⟩

/-- What the closure reads beside the row. -/
def CntC (S P1 P2 P3 P4 m u k : Nat) (acc : Int) (w : World) : Prop :=
  Blk w (S + 1 + 1) 2 #[.int .i64 acc] ∧ Blk w P3 3 #[.int .i64 k] ∧ Blk w (S + 1) 3 #[.int .i64 u] ∧ Blk w P4 70 #[.func (.func 42) #[] #[.pointer (some ⟨P1, 0, none⟩), .pointer (some ⟨P2, 0, none⟩), .pointer (some ⟨P3, 0, none⟩), .pointer (some ⟨P4, 0, none⟩)]] ∧ Blk w S 3 #[.int .i64 m]
set_option maxRecDepth 100000 in
set_option maxHeartbeats 8000000 in
theorem col_count (N : Nat) (es : List Ed) (hgd : GoodG N es) (A : Option Addr) (c cl B Q g k P1 P2 P3 P4 : Nat) (Ag : Option Addr) (ng cg : Nat) (hk : k ≤ 12) (hB0 : 0 < B) (hg3 : P3 ≠ g) : ∀ (f : Nat) (l : List Nat) (m u : Nat) (w : World), l.length = m → m + f = N → u ≤ k → Els w B 1 wcell A (nearL N es) →
    Blk w Q 73 #[.slice A N c, .slice (some ⟨g, 0, none⟩) N cl] → Own w B 3 1 icell (some ⟨g, 0, none⟩) cl (hueL N l) → TabOk w →
    Blk w P1 33 #[.int .i64 N, .slice Ag ng cg] → Blk w P2 68 #[.pointer (some ⟨Q, 0, none⟩)] → Blk w P3 3 #[.int .i64 k] → Blk w P4 70 #[.func (.func 42) #[] #[.pointer (some ⟨P1, 0, none⟩), .pointer (some ⟨P2, 0, none⟩), .pointer (some ⟨P3, 0, none⟩), .pointer (some ⟨P4, 0, none⟩)]] →
    Calls Tryd.prog 42 #[.int .i64 m, .int .i64 u, .pointer (some ⟨P1, 0, none⟩), .pointer (some ⟨P2, 0, none⟩), .pointer (some ⟨P3, 0, none⟩), .pointer (some ⟨P4, 0, none⟩)] w fun e w' => e = .returned (.int .i64 (cntF es k f l u)) ∧ Held [g] w w' ∧ Own w' B 3 1 icell (some ⟨g, 0, none⟩) cl (hueL N l) := by
  have hN := hgd.n10
  have HGD := Lib.hid hgd
  clear hgd
  intro f
  induction f with
  | zero =>
    intro l m u w hlm hmf huk hrt hq hown htab hp1 hp2 hp3 hp4
    have hgl := own_lt hown
    have h1l := hp1.lt
    obtain ⟨S, hS⟩ : ∃ S, S = w.heap.size := ⟨_, rfl⟩
    obtain ⟨W1, hW1⟩ : ∃ W1, W1 = ((w.alloc (.cells #[.int .i64 m] 3)).alloc (.cells #[.int .i64 u] 3)) := ⟨_, rfl⟩
    have hB1 : Below S w W1 := by rw [hW1, hS]; exact ((Below.refl _ w).alloc (Nat.le_refl _) _).alloc (by simp) _
    rw [← hS] at hgl h1l
    have ho1 : Own W1 B 3 1 icell (some ⟨g, 0, none⟩) cl (hueL N l) := hown.below hB1 (by rw [hS]; exact Nat.le_refl _)
    have c1 := (hp1.below hB1 (by rw [hS] at h1l ⊢; exact h1l)).cell 0
    obtain rfl : m = N := by omega
    have HS := Lib.hid hS
    have HW1 := Lib.hid hW1
    have HB1 := Lib.hid hB1
    have HO1 := Lib.hid ho1
    rw [hW1] at c1
    clear hlm htab hq hown hrt hS hW1 hB1 ho1 hmf hp1 hp2 hp3 hp4
    refine (callsIn_wide (n := 9)).1 ?_
    refine callsIn_of_wp_marks Tryd.func42 rfl trivial ?_ rfl
    simp only [Tryd.ntmps42, List.size_toArray, List.length_cons, List.length_nil, Nat.reduceAdd, Nat.reduceSub, Array.replicate_succ, Array.replicate_zero, List.push_toArray, List.append_toArray, List.nil_append, List.cons_append]
    gi_wp2_with fail
    rw [← HW1.out]
    refine bodyPostM_ret (Marks.nil S _) fun w' hw' => ⟨.int .i64 1, by simp [results, Tryd.results42, go_sem], ?_⟩
    have hbe := HB1.out.trans hw'.1
    refine ⟨rfl, ⟨hbe.os, hbe.tape, hbe.output, hbe.size, fun k hk hx => hbe.block k (by rw [HS.out]; exact hk)⟩, HO1.out.shut hw'⟩
  | succ f ih =>
    intro l m u w hlm hmf huk hrt hq hown htab hp1 hp2 hp3 hp4
    have HIH := Lib.hid ih
    have HM := Lib.hid hlm
    have hgQ : g ≠ Q := own_blk_ne hown hq (by decide)
    have hg1 : g ≠ P1 := own_blk_ne hown hp1 (by decide)
    have hg2 : g ≠ P2 := own_blk_ne hown hp2 (by decide)
    have hg4 : g ≠ P4 := own_blk_ne hown hp4 (by decide)
    have hgl := own_lt hown
    have hQl := hq.lt
    have h1l := hp1.lt
    have h2l := hp2.lt
    have h3l := hp3.lt
    have h4l := hp4.lt
    have hmN : m < N := by omega
    obtain ⟨S, hS⟩ : ∃ S, S = w.heap.size := ⟨_, rfl⟩
    obtain ⟨W1, hW1⟩ : ∃ W1, W1 = (((w.alloc (.cells #[.int .i64 m] 3)).alloc (.cells #[.int .i64 u] 3)).alloc (.cells #[.int .i64 0] 2)) := ⟨_, rfl⟩
    have hB1 : Below S w W1 := by rw [hW1, hS]; exact (((Below.refl _ w).alloc (Nat.le_refl _) _).alloc (by simp) _).alloc (by first | (simp; done) | (simp; omega)) _
    have hk0 : Blk W1 S 3 #[.int .i64 m] := by rw [hW1, hS]; exact ((Blk.new w _ _).alloc _).alloc _
    have hk1 : Blk W1 (S + 1) 3 #[.int .i64 u] := by rw [hW1, hS]; exact (Blk.new_at (by simp)).alloc _
    have hk2 : Blk W1 (S + 1 + 1) 2 #[.int .i64 0] := by rw [hW1, hS]; exact Blk.new_at (by simp)
    have hz1 : W1.heap.size = S + 1 + 1 + 1 := by rw [hW1, hS]; simp
    rw [← hS] at hgl hQl h1l h2l h3l h4l
    have hq1 : Blk W1 Q 73 #[.slice A N c, .slice (some ⟨g, 0, none⟩) N cl] := hq.below hB1 hQl
    have ho1 : Own W1 B 3 1 icell (some ⟨g, 0, none⟩) cl (hueL N l) := hown.below hB1 (by rw [hS]; exact Nat.le_refl _)
    have hrt1 : Els W1 B 1 wcell A (nearL N es) := hrt.below (hB1.mono (by omega))
    have hS0 : 0 < S := by omega
    have ht1 : TabOk W1 := htab.below hB1 hS0
    have hb1' := hp1.below hB1 h1l
    have hb2' := hp2.below hB1 h2l
    have hb3' := hp3.below hB1 h3l
    have hb4' := hp4.below hB1 h4l
    obtain ⟨kk, hkk⟩ : ∃ kk, kk = min (u + 1) k := ⟨_, rfl⟩
    have hkk12 : kk ≤ 12 := by omega
    have hll : (hueL N l).length = N := hueL_length (by omega)
    have HMAY := Lib.hid (col_may N hN A c cl Q g W1.heap.size (nearL N es) (hueL N l) m kk W1 (nearL_len N es) hll hmN (fun j hj => adj_in HGD.out (by rw [← near_bit HGD.out hmN]; exact mem_bitsL.1 hj)) hq1 (hrt1.more (by omega)) ho1.els (Nat.le_refl _) ht1)
    obtain ⟨X, hX⟩ : ∃ X, X = mayW (hueL N l) (lw (nearL N es) m) kk := ⟨_, rfl⟩
    rw [← hX] at HMAY
    have hbits : bitsL X = (List.range kk).filter (okC es l) := by
      rw [hX, ← hlm]
      exact bits_range (by omega) (may_ok HGD.out (by omega) (by omega))
    have HBITS := Lib.hid hbits
    have e0 := hk0.cell 0
    have e1 := hk1.cell 0
    have e2 := hb2'.cell 0
    have e3 := hb3'.cell 0
    have d1 := hb1'.cell 0
    have hne : ((m : Int) == (N : Int)) = false := by simp; omega
    obtain ⟨u1, hu1⟩ : ∃ u1, u1 = u + 1 := ⟨_, rfl⟩
    have hwu : IntKind.i64.wrap ((u : Int) + 1) = (u1 : Int) := by rw [IntKind.wrap_i64]; omega
    have hmin : ∀ (ts : Array TypeId) (t : TypeId) (W : World), (Builtin.min_ ts t #[.int .i64 (u1 : Int), .int .i64 (k : Int)]).run Tryd.prog W = .ok (.int .i64 (kk : Int)) W := fun ts t W => by
      rw [show (kk : Int) = if (k : Int) < (u1 : Int) then (k : Int) else (u1 : Int) by split <;> omega]
      simp [Builtin.min_, Builtin.min2]
    have HU1 := Lib.hid hu1
    have HKK := Lib.hid hkk
    have HS := Lib.hid hS
    have HW1 := Lib.hid hW1
    have HB1 := Lib.hid hB1
    have HK0 := Lib.hid hk0
    have HK1 := Lib.hid hk1
    have HK2 := Lib.hid hk2
    have HQ1 := Lib.hid hq1
    have HO1 := Lib.hid ho1
    have HRT := Lib.hid hrt1
    have HT1 := Lib.hid ht1
    have HP1 := Lib.hid hb1'
    have HP2 := Lib.hid hb2'
    have HP3 := Lib.hid hb3'
    have HP4 := Lib.hid hb4'
    have d1' : ((w.alloc (.cells #[.int .i64 m] 3)).alloc (.cells #[.int .i64 u] 3)).cell? ⟨P1, 0, none⟩ = some (.int .i64 N) := ((hp1.alloc _).alloc _).cell 0
    rw [hW1] at e0 e1 e2 e3
    clear ih hlm htab hq hown hrt hS hW1 hB1 hk0 hk1 hk2 hq1 ho1 hrt1 ht1 hX hll hp1 hp2 hp3 hp4 hb1' hb2' hb3' hb4' hkk hbits d1 hu1
    refine (callsIn_wide (n := 9)).1 ?_
    refine callsIn_of_wp_marks Tryd.func42 rfl trivial ?_ rfl
    simp only [Tryd.ntmps42, List.size_toArray, List.length_cons, List.length_nil, Nat.reduceAdd, Nat.reduceSub, Array.replicate_succ, Array.replicate_zero, List.push_toArray, List.append_toArray, List.nil_append, List.cons_append]
    gi_wp2_with fail
    rw [← HW1.out, ← HS.out]
    refine wide_call2 (HMAY.out.mono ?_)
    clear HMAY
    rintro e W2 ⟨rfl, hbm⟩
    have hbm' : Below (S + 1 + 1 + 1) W1 W2 := by rwa [hz1] at hbm
    clear hbm e0 e1 e2 e3 d1'
    gi_wp2_with fail
    refine wide_call2 ((graph_Each X _).mono ?_)
    rintro e W3 ⟨rfl, rfl⟩
    gi_wp2_with fail
    obtain ⟨T, hT⟩ : ∃ T, T = W2.heap.size := ⟨_, rfl⟩
    rw [← hT]
    obtain ⟨W5, hW5⟩ : ∃ W5, W5 = W2.alloc (.cells #[.int .u32 (wN X)] 51) := ⟨_, rfl⟩
    rw [← hW5]
    have hTS : S + 1 + 1 + 1 ≤ T := by rw [hT, ← hz1]; exact hbm'.size
    have hk5 : Blk W5 T 51 #[.int .u32 (wN X)] := by rw [hW5]; exact Blk.new_at hT.symm
    have hz5 : W5.heap.size = T + 1 := by rw [hW5, hT]; exact size_alloc' W2 _
    have hb15 : Below (S + 1 + 1 + 1) W1 W5 := by rw [hW5]; exact hbm'.alloc (by omega) _
    have hb5 : Below S w W5 := HB1.out.trans (hb15.mono (by omega))
    have q0 : Blk W5 S 3 #[.int .i64 m] := HK0.out.below hb15 (by omega)
    have q1 : Blk W5 (S + 1) 3 #[.int .i64 u] := HK1.out.below hb15 (by omega)
    have q6 : Blk W5 (S + 1 + 1) 2 #[.int .i64 0] := HK2.out.below hb15 (by omega)
    have q3 : Blk W5 Q 73 #[.slice A N c, .slice (some ⟨g, 0, none⟩) N cl] := HQ1.out.below hb15 (by omega)
    have q4 : Own W5 B 3 1 icell (some ⟨g, 0, none⟩) cl (hueL N l) := HO1.out.below hb15 (by omega)
    have q5 : Els W5 B 1 wcell A (nearL N es) := HRT.out.below (hb15.mono (by omega))
    have htw : TabOk W5 := HT1.out.below hb15 (by omega)
    have s1 := HP1.out.below hb15 (by omega)
    have s2 := HP2.out.below hb15 (by omega)
    have s3 := HP3.out.below hb15 (by omega)
    have s4 := HP4.out.below hb15 (by omega)
    have HB5 := Lib.hid hb5
    clear HK0 HK1 HK2 HQ1 HO1 HRT HB1 HW1 HT1 HP1 HP2 HP3 HP4 hW5 hbm' hb15 hT hb5 hz1
    have HK0 := Lib.hid q0
    have HK1 := Lib.hid q1
    have HK2 := Lib.hid q6
    have HQ5 := Lib.hid q3
    have HO5 := Lib.hid q4
    have HRT := Lib.hid q5
    have HK5 := Lib.hid hk5
    have HTW := Lib.hid htw
    have HP1 := Lib.hid s1
    have HP2 := Lib.hid s2
    have HP3 := Lib.hid s3
    have HP4 := Lib.hid s4
    have HSw : Hid (S = w.heap.size) := HS
    clear q0 q1 q3 q4 q5 q6 hk5 s1 s2 s3 s4
    have hk5b : Boxed W5 T 51 (.int .u32 (wN X)) := HK5.out
    obtain ⟨t, ht⟩ : ∃ t : Nat → Int, t = tmC es k (cntF es k f) l u := ⟨_, rfl⟩
    have htot : lsum t (bitsL X) = cntF es k (f + 1) l u := by rw [HBITS.out, lsum_filter, ht, cntF, HKK.out]
    have hnn : ∀ j ∈ bitsL X, 0 ≤ t j := fun j hj => by
      rw [HBITS.out] at hj
      have hjk := List.mem_range.1 (List.mem_filter.1 hj).1
      rw [ht]
      unfold tmC
      split
      · exact Int.mul_nonneg (by omega) (cntF_b es k f _ _ (by have := HKK.out; omega)).1
      · exact (cntF_b es k f _ _ huk).1
    have hsb : ∀ pre, pre <+: bitsL X → 0 ≤ lsum t pre ∧ lsum t pre ≤ 61917364224 := fun pre ⟨z, hz⟩ => by
      have h1 := lsum_pre (t := t) (l := pre) (z := z) (by rw [hz]; exact hnn)
      rw [hz, htot] at h1
      have h2 := (cntF_b es k (f + 1) l u huk).2
      have h3 := pow12 hk (show f + 1 ≤ 10 by omega)
      omega
    have HSB := Lib.hid hsb
    have HTOT := Lib.hid htot
    have HTT := Lib.hid ht
    have hmarks : ∀ (D : Nat) (W : World), W5.heap.size ≤ D → Held [g, S + 1 + 1, T] W5 W → W.heap[D]? = some (.deferred (some [])) → Marks S [{ target := .collected D, args := #[] }] W := fun D W hD hh hdef =>
      (Marks.nil S W5).cons rfl hD (by omega) (fun k hk he => (hh.block k hk (fun hm => by
        have hcell : (Obj.deferred (some [])).isCells = true := by
          simp only [List.mem_cons, List.not_mem_nil, or_false] at hm
          rcases hm with rfl | rfl | rfl
          · exact HO5.out.isCells _ he
          · exact HK2.out.isCells _ he
          · exact HK5.out.isCells _ he
        cases hcell)).trans he) hdef
    have hfin : ∀ (W W' : World), Held [g, S + 1 + 1, T] W5 W → Shut S W W' → Held [g] w W' := fun W W' hh hw' =>
      ⟨hw'.1.os.trans (hh.os.trans HB5.out.os), hw'.1.tape.trans (hh.tape.trans HB5.out.tape), hw'.1.output.trans (hh.output.trans HB5.out.output), Nat.le_trans HB5.out.size (Nat.le_trans hh.size hw'.1.size), fun k hk hx => by
        have hkS : k < S := by rw [HSw.out]; exact hk
        have hkn : k ∉ [g, S + 1 + 1, T] := by simp at hx ⊢; omega
        exact (hw'.1.block k hkS).trans ((hh.block k (by omega) hkn).trans (HB5.out.block k hkS))⟩
    clear hnn hsb htot ht
    refine wpIn_bits (p := 23) (q := 10) 9 67 T 51 (.int .u32 (wN X)) (bitsL X) [g, S + 1 + 1, T] rfl (enters_of Tryd.func67 (by kernel_rfl) rfl)
      (Each1_seq _ _ _ (by omega)) hk5b htw (by simp)
      (fun pre W => Own W B 3 1 icell (some ⟨g, 0, none⟩) cl (hueL N l) ∧ Blk W (S + 1 + 1) 2 #[.int .i64 (lsum t pre)])
      (fun _ _ _ => False)
      (fun s X Y row h hg hrow => by obtain ⟨h3, h5⟩ := h; exact ⟨own_kept h3 hg hrow, blk_kept h5 hg hrow⟩)
      (fun _ _ _ _ _ h _ _ => h)
      (fun s X v h => by obtain ⟨h3, h5⟩ := h; exact ⟨h3.far (fun he => (show g ≠ T by omega) (by injection he)) v, h5.far (show S + 1 + 1 ≠ T by omega) v⟩)
      ⟨HO5.out, HK2.out⟩ ?assign ?body ?done (fun _ _ _ _ _ _ _ h _ => h.elim)
    case assign =>
      intro l' j W K hK
      simp only [List.setIfInBounds_toArray, List.set_cons_succ, List.set_cons_zero] at hK ⊢
      gi_wp2_with fail
      exact hK
    case body =>
      intro l' pre j W hh hi hpre
      obtain ⟨hoW, hk2W⟩ := hi
      have hSW := hh.size
      have hgo1 := own_lt hoW
      have hp0 : Blk W S 3 #[.int .i64 m] := HK0.out.held hh (by simp; omega)
      have hp1 : Blk W (S + 1) 3 #[.int .i64 u] := HK1.out.held hh (by simp; omega)
      have hqW : Blk W Q 73 #[.slice A N c, .slice (some ⟨g, 0, none⟩) N cl] := HQ5.out.held hh (by simp; omega)
      have hrtW : Els W B 1 wcell A (nearL N es) := HRT.out.below (hh.to (B := B) (by omega) (by simp; omega))
      have htW : TabOk W := HTW.out.block hh.size (hh.block 0 (by omega) (by simp; omega))
      have hw1 := HP1.out.held hh (by simp; omega)
      have hw2 := HP2.out.held hh (by simp; omega)
      have hw3 := HP3.out.held hh (by simp; omega)
      have hw4 := HP4.out.held hh (by simp; omega)
      have hlm : l.length = m := HM.out
      have hml : m < (hueL N l).length := by rw [hueL_length (by omega)]; exact hmN
      obtain ⟨g', hge, _, _, x6, x7⟩ := hoW.cell1 hml
      obtain rfl : g = g' := by injection hge with h; injection h
      have x0 := hw2.cell 0
      have x1 := hqW.cell 1
      have x2 := hp0.cell 0
      obtain ⟨W6, hW6⟩ : ∃ W6, W6 = (W.setCell ⟨g, m, none⟩ (.int .i64 j)).drew := ⟨_, rfl⟩
      have hset : (hueL N l).set m (j : Int) = hueL N (l ++ [j]) := by rw [← hlm]; exact hueL_set (by omega) j
      have ho6 : Own W6 B 3 1 icell (some ⟨g, 0, none⟩) cl (hueL N (l ++ [j])) := by
        rw [hW6, ← hset]
        exact (hoW.put1 hml).drew
      have hh6 : Held [g] W W6 := by rw [hW6]; exact ((Held.refl [g] W).setCell (p := ⟨g, m, none⟩) (by simp) _).drew1
      have hh6d : Held [g] W W6.drew := hh6.drew1
      have hq6 : Blk W6.drew Q 73 #[.slice A N c, .slice (some ⟨g, 0, none⟩) N cl] := hqW.held hh6d (by simp; omega)
      have hp06 : Blk W6.drew S 3 #[.int .i64 m] := hp0.held hh6d (by simp; omega)
      have hp16 : Blk W6.drew (S + 1) 3 #[.int .i64 u] := hp1.held hh6d (by simp; omega)
      have hp16' : Blk W6 (S + 1) 3 #[.int .i64 u] := hp1.held hh6 (by simp; omega)
      have hk26 : Blk W6.drew (S + 1 + 1) 2 #[.int .i64 (lsum t pre)] := hk2W.held hh6d (by simp; omega)
      have hrt6 : Els W6.drew B 1 wcell A (nearL N es) := hrtW.below (hh6d.to (B := B) (by omega) (by simp; omega))
      have ht6 : TabOk W6.drew := htW.block hh6d.size (hh6d.block 0 (by omega) (by simp; omega))
      have hv1 := hw1.held hh6d (by simp; omega)
      have hv2 := hw2.held hh6d (by simp; omega)
      have hv3 := hw3.held hh6d (by simp; omega)
      have hv4 := hw4.held hh6d (by simp; omega)
      obtain ⟨acc, hacc⟩ : ∃ acc, acc = lsum t pre := ⟨_, rfl⟩
      have hb1 := HSB.out pre ((List.prefix_append pre [j]).trans hpre)
      have hb2 := HSB.out (pre ++ [j]) hpre
      have hjk : j < kk := by
        have : j ∈ bitsL X := by obtain ⟨z, hz⟩ := hpre; rw [← hz]; simp
        rw [HBITS.out] at this
        exact List.mem_range.1 (List.mem_filter.1 this).1
      rw [lsum_snoc, ← hacc] at hb2
      rw [← hacc] at hb1 hk26
      have hsn : lsum t (pre ++ [j]) = acc + t j := by rw [lsum_snoc, hacc]
      have HSN := Lib.hid hsn
      obtain ⟨m1, hm1⟩ : ∃ m1, m1 = m + 1 := ⟨_, rfl⟩
      have hmm : IntKind.i64.wrap ((m : Int) + 1) = (m1 : Int) := by rw [IntKind.wrap_i64]; omega
      have hmN' : (m : Int) < (N : Int) := by omega
      have hm0' : (0 : Int) ≤ (m : Int) := by omega
      have r1 := hp16'.cell 0
      have HW6 := Lib.hid hW6
      have HH := Lib.hid hh
      have HH6 := Lib.hid hh6d
      have HOW := Lib.hid hoW
      have HK2W := Lib.hid hk2W
      have HP06 := Lib.hid hp06
      have HQ6 := Lib.hid hq6
      have HV2 := Lib.hid hv2
      have HC6 : Hid (CntC S P1 P2 P3 P4 m u k acc W6.drew) := Lib.hid ⟨hk26, hv3, hp16, hv4, hp06⟩
      simp only [List.setIfInBounds_toArray, List.set_cons_succ, List.set_cons_zero]
      by_cases hju : j = u
      · subst hju
        have HCALL := Lib.hid (HIH.out (l ++ [j]) m1 u1 W6.drew (by rw [List.length_append, HM.out, hm1]; rfl) (by omega) (by have := HKK.out; have := HU1.out; omega) hrt6 hq6 ho6.drew ht6 hv1 hv2 hv3 hv4)
        obtain ⟨z, hz⟩ : ∃ z, z = cntF es k f (l ++ [j]) u1 := ⟨_, rfl⟩
        rw [← hz] at HCALL
        have htj : t j = ((k : Int) - j) * z := by rw [HTT.out]; unfold tmC; rw [if_pos rfl, hz, HU1.out]
        rw [htj] at hb2 hsn
        have hz0 : 0 ≤ ((k : Int) - j) * z := by
          rw [hz]
          exact Int.mul_nonneg (by omega) (cntF_b es k f _ _ (by have := HKK.out; have := HU1.out; omega)).1
        have hwk : IntKind.i64.wrap ((k : Int) - j) = (k : Int) - j := IntWalk.i64_in _ (by omega)
        obtain ⟨y, hy⟩ : ∃ y, y = ((k : Int) - j) * z := ⟨_, rfl⟩
        have hwy : IntKind.i64.wrap (((k : Int) - j) * z) = y := by rw [← hy] at hb2 hz0 ⊢; exact IntWalk.i64_in _ (by omega)
        rw [← hy] at hb2 hsn hz0
        have hwa : IntKind.i64.wrap (acc + y) = acc + y := IntWalk.i64_in _ (by omega)
        have HSN2 := Lib.hid hsn
        clear hW6 hoW hk2W hh hp0 hp1 hqW hrtW htW hge hset ho6 hh6 hh6d hq6 hp06 hp16 hp16' hk26 hrt6 ht6 hpre hv1 hv2 hv3 hv4 hw1 hw2 hw3 hw4 hacc hb1 hb2 hsn htj hz hy hz0 hm1
        gi_wp2_with fail
        refine region_round 7 8 (fun w' => w' = W.drew) (by kernel_rfl) rfl (by kernel_rfl) ?_
        refine anyC_reads (by kernel_rfl) [0, 1, 2, 3, 4, 5, 6] ?opk ?ohk 1 _ _ _ (by kernel_rfl) ?okk
        case ohk => (simp only [List.filterMap_cons, List.filterMap_nil, List.getElem?_toArray, List.getElem?_cons_zero, List.getElem?_cons_succ]; try rfl)
        repeat (
          refine readC_step (v := ?_) rfl (fun w' hw' => ?_) ?_
          rotate_left
          focus (subst hw'; go_simp; try with_reducible rfl)
          go_simp)
        refine readC_nil ?_
        refine anyC_one (i := 7) (by kernel_rfl) rfl rfl (.inr rfl) ?_
        go_simp
        refine anyC_end (by kernel_rfl) (.inl (by kernel_rfl)) ?_
        rw [← HW6.out]
        clear x0 x1 x2 x6 x7
        gi_wp2_with fail
        clear r1
        refine region_round 12 13 (fun w' => CntC S P1 P2 P3 P4 m j k acc w') (by kernel_rfl) rfl (by kernel_rfl) ?_
        refine anyC_reads (by kernel_rfl) [0, 1, 2, 3, 4, 5, 6, 7, 8] ?opl ?ohl 4 _ _ _ (by kernel_rfl) ?okl
        case ohl => (simp only [List.filterMap_cons, List.filterMap_nil, List.getElem?_toArray, List.getElem?_cons_zero, List.getElem?_cons_succ]; try rfl)
        repeat (
          refine readC_step (v := ?_) rfl (fun w' hw' => ?_) ?_
          rotate_left
          focus (obtain ⟨q1, q2, q3, q4, q5⟩ := hw'; have n1 := q1.cell 0; have n2 := q2.cell 0; have n3 := q3.cell 0; have n4 := q4.cell 0; have n5 := q5.cell 0; clear q1 q2 q3 q4 q5; go_simp; try with_reducible rfl)
          go_simp)
        refine readC_nil ?_
        refine anyC_one (i := 9) (by kernel_rfl) rfl rfl (.inr HC6.out) ?_
        go_simp
        refine HCALL.out.mono ?_
        clear HCALL
        rintro e v7 ⟨rfl, hh7, ho7⟩
        have hz6 := HH6.out.size
        have hC7 : CntC S P1 P2 P3 P4 m j k acc v7 := by
          obtain ⟨q1, q2, q3, q4, q5⟩ := HC6.out
          exact ⟨q1.held hh7 (by simp; omega), q2.held hh7 (by simp; omega), q3.held hh7 (by simp; omega), q4.held hh7 (by simp; omega), q5.held hh7 (by simp; omega)⟩
        have HC7 := Lib.hid hC7
        have c9 := hC7.1.cell 0
        have f9 := hC7.1.frozen 0
        have HH7 := Lib.hid hh7
        have HO7 := Lib.hid ho7
        clear hC7 hh7 ho7
        go_simp
        refine anyC_one (i := 10) (by kernel_rfl) rfl rfl (.inr HC7.out) ?_
        go_simp
        refine anyC_one (i := 11) (by kernel_rfl) rfl rfl (.inr HC7.out) ?_
        go_simp
        refine anyC_one (i := 12) (by kernel_rfl) rfl rfl (.inr HC7.out) ?_
        go_simp
        refine anyC_end (by kernel_rfl) (.inl (by kernel_rfl)) ?_
        obtain ⟨V8, hV8⟩ : ∃ V8, V8 = v7.setCell ⟨S + 1 + 1, 0, none⟩ (.int .i64 (acc + y)) := ⟨_, rfl⟩
        rw [← hV8]
        have h68 : Held [g, S + 1 + 1] W6.drew V8 := by
          rw [hV8]
          exact ((Held.refl [g, S + 1 + 1] W6.drew).then HH7.out (fun i hi _ => by simp at hi ⊢; omega)).setCell (p := ⟨S + 1 + 1, 0, none⟩) (by simp) _
        have hz8 : W.heap.size ≤ V8.heap.size := Nat.le_trans hz6 h68.size
        have hT8 : Blk V8 (S + 1 + 1) 2 #[.int .i64 (acc + y)] := by rw [hV8]; exact HC7.out.1.put 0 _
        have ho8 : Own V8 B 3 1 icell (some ⟨g, 0, none⟩) cl (hueL N (l ++ [j])) := by rw [hV8]; exact HO7.out.far (p := ⟨S + 1 + 1, 0, none⟩) (fun he => (show g ≠ S + 1 + 1 by omega) (by injection he)) _
        have hp28 := HV2.out.held h68 (by simp; omega)
        have hq8 := HQ6.out.held h68 (by simp; omega)
        have hp08 := HP06.out.held h68 (by simp; omega)
        have hml8 : m < (hueL N (l ++ [j])).length := by rw [hueL_length (by rw [List.length_append, List.length_singleton, HM.out]; omega)]; exact hmN
        obtain ⟨g', hge, _, _, z6, z7⟩ := ho8.cell1 hml8
        obtain rfl : g = g' := by injection hge with h; injection h
        have c70 := hp28.cell 0
        have c71 := hq8.cell 1
        have c72 := hp08.cell 0
        have hset : (hueL N (l ++ [j])).set m (-1) = hueL N l := by rw [← HM.out]; exact hueL_unset (by rw [HM.out]; exact hmN) j
        have ho9 : Own (V8.setCell ⟨g, m, none⟩ (.int .i64 (-1))) B 3 1 icell (some ⟨g, 0, none⟩) cl (hueL N l) := by
          rw [← hset]
          exact ho8.put1 hml8
        have hall : Held [g, S + 1 + 1] W (V8.setCell ⟨g, m, none⟩ (.int .i64 (-1))) := (((Held.refl [g, S + 1 + 1] W).then HH6.out (fun i hi _ => by simp at hi ⊢; omega)).trans h68).setCell (p := ⟨g, m, none⟩) (by simp) _
        have hT9 : Blk (V8.setCell ⟨g, m, none⟩ (.int .i64 (-1))) (S + 1 + 1) 2 #[.int .i64 (acc + y)] := hT8.far (p := ⟨g, m, none⟩) (show S + 1 + 1 ≠ g by omega) _
        have HALL := Lib.hid hall
        have HT9 := Lib.hid hT9
        have HO9 := Lib.hid ho9
        clear c9 f9 hV8 h68 hT8 ho8 hp28 hq8 hp08 hge hset ho9 hall hT9
        gi_wp2_with fail
        refine region_round 6 7 (fun w' => w' = V8.drew) (by kernel_rfl) rfl (by kernel_rfl) ?_
        refine anyC_reads (by kernel_rfl) [0, 1, 2, 3, 4, 5] ?opm ?ohm 1 _ _ _ (by kernel_rfl) ?okm
        case ohm => (simp only [List.filterMap_cons, List.filterMap_nil, List.getElem?_toArray, List.getElem?_cons_zero, List.getElem?_cons_succ]; try rfl)
        repeat (
          refine readC_step (v := ?_) rfl (fun w' hw' => ?_) ?_
          rotate_left
          focus (subst hw'; go_simp; try with_reducible rfl)
          go_simp)
        refine readC_nil ?_
        refine anyC_one (i := 6) (by kernel_rfl) rfl rfl (.inr rfl) ?_
        go_simp
        refine anyC_end (by kernel_rfl) (.inl (by kernel_rfl)) ?_
        gi_wp2_with fail
        refine ⟨KeepsFrom.drew (KeepsFrom.held HALL.out (fun k hk o ho => ?_)), (KpE.held HALL.out (by simp; omega) (by simp; omega)).drew, (HH.out.then HALL.out (fun i hi _ => by simp at hi ⊢; omega)).drew1, HO9.out.drew, ?_⟩
        · simp only [List.mem_cons, List.not_mem_nil, or_false] at hk
          rcases hk with rfl | rfl
          · exact HOW.out.isCells o ho
          · exact HK2W.out.isCells o ho
        · rw [HSN2.out]
          exact HT9.out.drew
      · have hjeq : ((j : Int) == (u : Int)) = false := by simp; omega
        have HCALL := Lib.hid (HIH.out (l ++ [j]) m1 u W6.drew (by rw [List.length_append, HM.out, hm1]; rfl) (by omega) huk hrt6 hq6 ho6.drew ht6 hv1 hv2 hv3 hv4)
        obtain ⟨y, hy⟩ : ∃ y, y = cntF es k f (l ++ [j]) u := ⟨_, rfl⟩
        rw [← hy] at HCALL
        have htj : t j = y := by rw [HTT.out]; unfold tmC; rw [if_neg hju, hy]
        rw [htj] at hb2 hsn
        have hwa : IntKind.i64.wrap (acc + y) = acc + y := IntWalk.i64_in _ (by omega)
        have HSN2 := Lib.hid hsn
        clear hW6 hoW hk2W hh hp0 hp1 hqW hrtW htW hge hset ho6 hh6 hh6d hq6 hp06 hp16 hp16' hk26 hrt6 ht6 hpre hv1 hv2 hv3 hv4 hw1 hw2 hw3 hw4 hacc hb1 hb2 hsn htj hy hm1
        gi_wp2_with fail
        refine region_round 7 8 (fun w' => w' = W.drew) (by kernel_rfl) rfl (by kernel_rfl) ?_
        refine anyC_reads (by kernel_rfl) [0, 1, 2, 3, 4, 5, 6] ?oqk ?oik 1 _ _ _ (by kernel_rfl) ?ojk
        case oik => (simp only [List.filterMap_cons, List.filterMap_nil, List.getElem?_toArray, List.getElem?_cons_zero, List.getElem?_cons_succ]; try rfl)
        repeat (
          refine readC_step (v := ?_) rfl (fun w' hw' => ?_) ?_
          rotate_left
          focus (subst hw'; go_simp; try with_reducible rfl)
          go_simp)
        refine readC_nil ?_
        refine anyC_one (i := 7) (by kernel_rfl) rfl rfl (.inr rfl) ?_
        go_simp
        refine anyC_end (by kernel_rfl) (.inl (by kernel_rfl)) ?_
        rw [← HW6.out]
        clear x0 x1 x2 x6 x7
        gi_wp2_with fail
        clear r1
        refine region_round 7 8 (fun w' => CntC S P1 P2 P3 P4 m u k acc w') (by kernel_rfl) rfl (by kernel_rfl) ?_
        refine anyC_reads (by kernel_rfl) [0, 1, 2, 3, 4] ?oql ?oil 3 _ _ _ (by kernel_rfl) ?ojl
        case oil => (simp only [List.filterMap_cons, List.filterMap_nil, List.getElem?_toArray, List.getElem?_cons_zero, List.getElem?_cons_succ]; try rfl)
        repeat (
          refine readC_step (v := ?_) rfl (fun w' hw' => ?_) ?_
          rotate_left
          focus (obtain ⟨q1, q2, q3, q4, q5⟩ := hw'; have n1 := q1.cell 0; have n2 := q2.cell 0; have n3 := q3.cell 0; have n4 := q4.cell 0; have n5 := q5.cell 0; clear q1 q2 q3 q4 q5; go_simp; try with_reducible rfl)
          go_simp)
        refine readC_nil ?_
        refine anyC_one (i := 5) (by kernel_rfl) rfl rfl (.inr HC6.out) ?_
        go_simp
        refine HCALL.out.mono ?_
        clear HCALL
        rintro e v7 ⟨rfl, hh7, ho7⟩
        have hz6 := HH6.out.size
        have hC7 : CntC S P1 P2 P3 P4 m u k acc v7 := by
          obtain ⟨q1, q2, q3, q4, q5⟩ := HC6.out
          exact ⟨q1.held hh7 (by simp; omega), q2.held hh7 (by simp; omega), q3.held hh7 (by simp; omega), q4.held hh7 (by simp; omega), q5.held hh7 (by simp; omega)⟩
        have HC7 := Lib.hid hC7
        have c9 := hC7.1.cell 0
        have f9 := hC7.1.frozen 0
        have HH7 := Lib.hid hh7
        have HO7 := Lib.hid ho7
        clear hC7 hh7 ho7
        go_simp
        refine anyC_one (i := 6) (by kernel_rfl) rfl rfl (.inr HC7.out) ?_
        go_simp
        refine anyC_one (i := 7) (by kernel_rfl) rfl rfl (.inr HC7.out) ?_
        go_simp
        refine anyC_end (by kernel_rfl) (.inl (by kernel_rfl)) ?_
        obtain ⟨V8, hV8⟩ : ∃ V8, V8 = v7.setCell ⟨S + 1 + 1, 0, none⟩ (.int .i64 (acc + y)) := ⟨_, rfl⟩
        rw [← hV8]
        have h68 : Held [g, S + 1 + 1] W6.drew V8 := by
          rw [hV8]
          exact ((Held.refl [g, S + 1 + 1] W6.drew).then HH7.out (fun i hi _ => by simp at hi ⊢; omega)).setCell (p := ⟨S + 1 + 1, 0, none⟩) (by simp) _
        have hz8 : W.heap.size ≤ V8.heap.size := Nat.le_trans hz6 h68.size
        have hT8 : Blk V8 (S + 1 + 1) 2 #[.int .i64 (acc + y)] := by rw [hV8]; exact HC7.out.1.put 0 _
        have ho8 : Own V8 B 3 1 icell (some ⟨g, 0, none⟩) cl (hueL N (l ++ [j])) := by rw [hV8]; exact HO7.out.far (p := ⟨S + 1 + 1, 0, none⟩) (fun he => (show g ≠ S + 1 + 1 by omega) (by injection he)) _
        have hp28 := HV2.out.held h68 (by simp; omega)
        have hq8 := HQ6.out.held h68 (by simp; omega)
        have hp08 := HP06.out.held h68 (by simp; omega)
        have hml8 : m < (hueL N (l ++ [j])).length := by rw [hueL_length (by rw [List.length_append, List.length_singleton, HM.out]; omega)]; exact hmN
        obtain ⟨g', hge, _, _, z6, z7⟩ := ho8.cell1 hml8
        obtain rfl : g = g' := by injection hge with h; injection h
        have c70 := hp28.cell 0
        have c71 := hq8.cell 1
        have c72 := hp08.cell 0
        have hset : (hueL N (l ++ [j])).set m (-1) = hueL N l := by rw [← HM.out]; exact hueL_unset (by rw [HM.out]; exact hmN) j
        have ho9 : Own (V8.setCell ⟨g, m, none⟩ (.int .i64 (-1))) B 3 1 icell (some ⟨g, 0, none⟩) cl (hueL N l) := by
          rw [← hset]
          exact ho8.put1 hml8
        have hall : Held [g, S + 1 + 1] W (V8.setCell ⟨g, m, none⟩ (.int .i64 (-1))) := (((Held.refl [g, S + 1 + 1] W).then HH6.out (fun i hi _ => by simp at hi ⊢; omega)).trans h68).setCell (p := ⟨g, m, none⟩) (by simp) _
        have hT9 : Blk (V8.setCell ⟨g, m, none⟩ (.int .i64 (-1))) (S + 1 + 1) 2 #[.int .i64 (acc + y)] := hT8.far (p := ⟨g, m, none⟩) (show S + 1 + 1 ≠ g by omega) _
        have HALL := Lib.hid hall
        have HT9 := Lib.hid hT9
        have HO9 := Lib.hid ho9
        clear c9 f9 hV8 h68 hT8 ho8 hp28 hq8 hp08 hge hset ho9 hall hT9
        gi_wp2_with fail
        refine region_round 6 7 (fun w' => w' = V8.drew) (by kernel_rfl) rfl (by kernel_rfl) ?_
        refine anyC_reads (by kernel_rfl) [0, 1, 2, 3, 4, 5] ?oqm ?oim 1 _ _ _ (by kernel_rfl) ?ojm
        case oim => (simp only [List.filterMap_cons, List.filterMap_nil, List.getElem?_toArray, List.getElem?_cons_zero, List.getElem?_cons_succ]; try rfl)
        repeat (
          refine readC_step (v := ?_) rfl (fun w' hw' => ?_) ?_
          rotate_left
          focus (subst hw'; go_simp; try with_reducible rfl)
          go_simp)
        refine readC_nil ?_
        refine anyC_one (i := 6) (by kernel_rfl) rfl rfl (.inr rfl) ?_
        go_simp
        refine anyC_end (by kernel_rfl) (.inl (by kernel_rfl)) ?_
        gi_wp2_with fail
        refine ⟨KeepsFrom.drew (KeepsFrom.held HALL.out (fun k hk o ho => ?_)), (KpE.held HALL.out (by simp; omega) (by simp; omega)).drew, (HH.out.then HALL.out (fun i hi _ => by simp at hi ⊢; omega)).drew1, HO9.out.drew, ?_⟩
        · simp only [List.mem_cons, List.not_mem_nil, or_false] at hk
          rcases hk with rfl | rfl
          · exact HOW.out.isCells o ho
          · exact HK2W.out.isCells o ho
        · rw [HSN2.out]
          exact HT9.out.drew
    case done =>
      intro D W hD hh hi hdef
      obtain ⟨hoW, hk2W⟩ := hi
      have HMK := Lib.hid (hmarks D W hD hh hdef)
      have c2 := hk2W.cell 0
      have HO2 := Lib.hid hoW
      have HHH := Lib.hid hh
      clear hh hdef hoW hk2W htw hk5b
      gi_wp2_with fail
      refine bodyPostM_ret HMK.out fun w' hw' => ?_
      refine ⟨.int .i64 (lsum t (bitsL X)), by simp [results, Tryd.results42, go_sem], ?_, hfin _ _ HHH.out hw', HO2.out.shut hw'⟩
      rw [HTOT.out]
end Go.Proofs.YtokmialpclcodaaDoor
