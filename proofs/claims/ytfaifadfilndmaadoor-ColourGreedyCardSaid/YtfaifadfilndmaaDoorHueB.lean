/- The first colouring by so many colours: the painter's search. Conditions: the words read as a list, the row lies in one of its own; the table. -/
import Derived.Test.YtfaifadfilndmaaDoorHueA
namespace Go.Proofs.YtfaifadfilndmaaDoor
open Go.RowKit Go.Shelf
attribute [local go_sem] Oper.semAt_some
attribute [local go_sem ↓] w_and w_or w_xor w_andNot w_and1 w_and255 w_xor1 w_or0 w_shl w_shl1 w_shr w_sub w_add w_sub1 w_add1
attribute [local go_sem] w_eq0 w_ne0 w_eq1 w_eq w_ne

/-- What the search hands back, and leaves in the row g. -/
def PtRes (r : Option (List Nat)) (e : Ending) (B g cl N : Nat) (l : List Nat) (w : World) : Prop :=
  match r with
  | some u => e = .returned (.bool true) ∧ Own w B 3 1 icell (some ⟨g, 0, none⟩) cl (intsOf u)
  | none => e = .returned (.bool false) ∧ Own w B 3 1 icell (some ⟨g, 0, none⟩) cl (hueL N l)

set_option maxRecDepth 100000 in
set_option maxHeartbeats 8000000 in
theorem col_paint (N : Nat) (es : List Ed) (hgd : GoodG N es) (A : Option Addr) (c cl B Q g k : Nat) (hk : k ≤ 12) (hB0 : 0 < B) (hBQ : B ≤ Q) : ∀ (f : Nat) (l : List Nat) (m : Nat) (w : World), l.length = m → m + f = N → Els w B 1 wcell A (nearL N es) →
    Blk w Q 101 #[.slice A N c, .slice (some ⟨g, 0, none⟩) N cl] → Own w B 3 1 icell (some ⟨g, 0, none⟩) cl (hueL N l) → TabOk w →
    Calls Tryd.prog 67 #[.pointer (some ⟨Q, 0, none⟩), .int .i64 m, .int .i64 k] w fun e w' => Held [g] w w' ∧ PtRes (paintF es k f l) e B g cl N l w' := by
  have hN := hgd.n10
  have HGD := Lib.hid hgd
  clear hgd
  intro f
  induction f with
  | zero =>
    intro l m w hlm hmf hrt hq hown htab
    have HM := Lib.hid hlm
    have hgQ : g ≠ Q := own_blk_ne hown hq (by decide)
    have hgl := own_lt hown
    have hQl := hq.lt
    obtain ⟨S, hS⟩ : ∃ S, S = w.heap.size := ⟨_, rfl⟩
    obtain ⟨W1, hW1⟩ : ∃ W1, W1 = ((((w.alloc (.cells #[.pointer (some ⟨Q, 0, none⟩)] 97)).alloc (.cells #[.int .i64 m] 3)).alloc (.cells #[.int .i64 k] 3)).alloc (.cells #[.bool false] 4)) := ⟨_, rfl⟩
    have hB1 : Below S w W1 := by rw [hW1, hS]; exact ((((Below.refl _ w).alloc (Nat.le_refl _) _).alloc (by simp) _).alloc (by first | (simp; done) | (simp; omega)) _).alloc (by first | (simp; done) | (simp; omega)) _
    have hk0 : Blk W1 S 97 #[.pointer (some ⟨Q, 0, none⟩)] := by rw [hW1, hS]; exact (((Blk.new w _ _).alloc _).alloc _).alloc _
    have hk1 : Blk W1 (S + 1) 3 #[.int .i64 m] := by rw [hW1, hS]; exact ((Blk.new_at (by simp)).alloc _).alloc _
    have hk3 : Blk W1 (S + 1 + 1 + 1) 4 #[.bool false] := by rw [hW1, hS]; exact Blk.new_at (by simp)
    rw [← hS] at hgl hQl
    have hq1 : Blk W1 Q 101 #[.slice A N c, .slice (some ⟨g, 0, none⟩) N cl] := hq.below hB1 hQl
    have ho1 : Own W1 B 3 1 icell (some ⟨g, 0, none⟩) cl (hueL N l) := hown.below hB1 (by rw [hS]; exact Nat.le_refl _)
    have e0 := hk0.cell 0
    have e1 := hk1.cell 0
    have e3 := hk3.cell 0
    have f3 := hk3.frozen 0
    have d1 := hq1.cell 1
    have hsz : m = N := by omega
    have hne : ((m : Int) == (N : Int)) = true := by simp; omega
    have hne2 : decide (m = N) = true := decide_eq_true hsz
    have HS := Lib.hid hS
    have HW1 := Lib.hid hW1
    have HB1 := Lib.hid hB1
    have HK3 := Lib.hid hk3
    have HO1 := Lib.hid ho1
    have HML : Hid (hueL N l = intsOf l) := Lib.hid (hueL_full (by omega))
    clear hlm htab hq hown hrt hS hW1 hB1 hk0 hk1 hk3 hq1 ho1 hmf hsz
    refine (callsIn_wide (n := 9)).1 ?_
    refine callsIn_of_wp_marks Tryd.func67 rfl trivial ?_ rfl
    simp only [Tryd.ntmps67, List.size_toArray, List.length_cons, List.length_nil, Nat.reduceAdd, Nat.reduceSub, Array.replicate_succ, Array.replicate_zero, List.push_toArray, List.append_toArray, List.nil_append, List.cons_append]
    gi_wp2_with fail
    rw [← HW1.out, ← HS.out]
    refine region_wide 99 7 (fun w' => w' = W1.drew) (by kernel_rfl) rfl ?_
    refine anyC_reads (by kernel_rfl) [0, 1, 2, 3, 4, 5, 6] ?opg ?ohg 0 _ _ _ (by kernel_rfl) ?okg
    case ohg => (simp only [List.filterMap_cons, List.filterMap_nil, List.getElem?_toArray, List.getElem?_cons_zero, List.getElem?_cons_succ]; try rfl)
    repeat (
      refine readC_step (v := ?_) rfl (fun w' hw' => ?_) ?_
      rotate_left
      focus (subst hw'; go_simp; try with_reducible rfl)
      go_simp)
    refine readC_nil ?_
    refine anyC_end (by kernel_rfl) (.inr rfl) ?_
    gi_wp2_with fail
    have hpb : Blk (W1.setCell ⟨S + 1 + 1 + 1, 0, none⟩ (.bool true)).drew (S + 1 + 1 + 1) 4 #[.bool true] := (HK3.out.put 0 (.bool true)).drew
    have hgS2 : g = S + 1 + 1 + 1 → False := fun h => by omega
    have hoo : Own (W1.setCell ⟨S + 1 + 1 + 1, 0, none⟩ (.bool true)).drew B 3 1 icell (some ⟨g, 0, none⟩) cl (hueL N l) := (HO1.out.far (p := ⟨S + 1 + 1 + 1, 0, none⟩) (fun he => hgS2 (by injection he)) _).drew
    refine bodyPostM_ret (Marks.nil S _) fun w' hw' => ?_
    have hv := (hpb.shut hw').cell 0
    have hbe := (HB1.out.setCell (p := ⟨S + 1 + 1 + 1, 0, none⟩) (show S ≤ S + 1 + 1 + 1 by omega) (.bool true)).drew.trans hw'.1
    refine ⟨.bool true, by simp [results, Tryd.results67, go_sem, hv], ⟨hbe.os, hbe.tape, hbe.output, hbe.size, fun k hk hx => hbe.block k (by rw [HS.out]; exact hk)⟩, ?_⟩
    refine ⟨rfl, ?_⟩
    rw [← HML.out]
    exact hoo.shut hw'
  | succ f ih =>
    intro l m w hlm hmf hrt hq hown htab
    have HIH := Lib.hid ih
    have HM := Lib.hid hlm
    have hgQ : g ≠ Q := own_blk_ne hown hq (by decide)
    have hgl := own_lt hown
    have hQl := hq.lt
    have hmN : m < N := by omega
    obtain ⟨S, hS⟩ : ∃ S, S = w.heap.size := ⟨_, rfl⟩
    obtain ⟨W1, hW1⟩ : ∃ W1, W1 = ((((w.alloc (.cells #[.pointer (some ⟨Q, 0, none⟩)] 97)).alloc (.cells #[.int .i64 m] 3)).alloc (.cells #[.int .i64 k] 3)).alloc (.cells #[.bool false] 4)) := ⟨_, rfl⟩
    have hB1 : Below S w W1 := by rw [hW1, hS]; exact ((((Below.refl _ w).alloc (Nat.le_refl _) _).alloc (by simp) _).alloc (by first | (simp; done) | (simp; omega)) _).alloc (by first | (simp; done) | (simp; omega)) _
    have hk0 : Blk W1 S 97 #[.pointer (some ⟨Q, 0, none⟩)] := by rw [hW1, hS]; exact (((Blk.new w _ _).alloc _).alloc _).alloc _
    have hk1 : Blk W1 (S + 1) 3 #[.int .i64 m] := by rw [hW1, hS]; exact ((Blk.new_at (by simp)).alloc _).alloc _
    have hk2 : Blk W1 (S + 1 + 1) 3 #[.int .i64 k] := by rw [hW1, hS]; exact (Blk.new_at (by simp)).alloc _
    have hk3 : Blk W1 (S + 1 + 1 + 1) 4 #[.bool false] := by rw [hW1, hS]; exact Blk.new_at (by simp)
    have hz1 : W1.heap.size = S + 1 + 1 + 1 + 1 := by rw [hW1, hS]; simp
    rw [← hS] at hgl hQl
    have hq1 : Blk W1 Q 101 #[.slice A N c, .slice (some ⟨g, 0, none⟩) N cl] := hq.below hB1 hQl
    have ho1 : Own W1 B 3 1 icell (some ⟨g, 0, none⟩) cl (hueL N l) := hown.below hB1 (by rw [hS]; exact Nat.le_refl _)
    have hrt1 : Els W1 B 1 wcell A (nearL N es) := hrt.below (hB1.mono (by omega))
    have hS0 : 0 < S := by omega
    have ht1 : TabOk W1 := htab.below hB1 hS0
    have hll : (hueL N l).length = N := hueL_length (by omega)
    have HMAY := Lib.hid (col_may N hN A c cl Q g W1.heap.size (nearL N es) (hueL N l) m k W1.drew (nearL_len N es) hll hmN (fun j hj => adj_in HGD.out (by rw [← near_bit HGD.out hmN]; exact mem_bitsL.1 hj)) hq1.drew (hrt1.more (by omega)) ho1.els (Nat.le_refl _) (ht1.block (Nat.le_refl _) rfl))
    obtain ⟨X, hX⟩ : ∃ X, X = mayW (hueL N l) (lw (nearL N es) m) k := ⟨_, rfl⟩
    rw [← hX] at HMAY
    have HX : Hid (∀ f, paintF es k (f + 1) l = (bitsL X).findSome? fun c => paintF es k f (l ++ [c])) := Lib.hid (fun f => by rw [paintF_bits HGD.out (l := l) (by omega) (by omega), hlm, ← hX])
    have e0 := hk0.cell 0
    have e1 := hk1.cell 0
    have e2 := hk2.cell 0
    have d1 := hq1.cell 1
    have hne : ((m : Int) == (N : Int)) = false := by simp; omega
    have hne2 : decide (m = N) = false := decide_eq_false (by omega)
    have HS := Lib.hid hS
    have HW1 := Lib.hid hW1
    have HB1 := Lib.hid hB1
    have HK0 := Lib.hid hk0
    have HK1 := Lib.hid hk1
    have HK2 := Lib.hid hk2
    have HK3 := Lib.hid hk3
    have HQ1 := Lib.hid hq1
    have HO1 := Lib.hid ho1
    have HRT := Lib.hid hrt1
    have HT1 := Lib.hid ht1
    clear ih hlm htab hq hown hrt hS hW1 hB1 hk0 hk1 hk2 hk3 hq1 ho1 hrt1 ht1 hX hll
    refine (callsIn_wide (n := 9)).1 ?_
    refine callsIn_of_wp_marks Tryd.func67 rfl trivial ?_ rfl
    simp only [Tryd.ntmps67, List.size_toArray, List.length_cons, List.length_nil, Nat.reduceAdd, Nat.reduceSub, Array.replicate_succ, Array.replicate_zero, List.push_toArray, List.append_toArray, List.nil_append, List.cons_append]
    gi_wp2_with fail
    rw [← HW1.out, ← HS.out]
    refine region_wide 99 7 (fun w' => w' = W1.drew) (by kernel_rfl) rfl ?_
    refine anyC_reads (by kernel_rfl) [0, 1, 2, 3, 4, 5, 6] ?oph ?ohh 0 _ _ _ (by kernel_rfl) ?okh
    case ohh => (simp only [List.filterMap_cons, List.filterMap_nil, List.getElem?_toArray, List.getElem?_cons_zero, List.getElem?_cons_succ]; try rfl)
    repeat (
      refine readC_step (v := ?_) rfl (fun w' hw' => ?_) ?_
      rotate_left
      focus (subst hw'; go_simp; try with_reducible rfl)
      go_simp)
    refine readC_nil ?_
    refine anyC_end (by kernel_rfl) (.inr rfl) ?_
    gi_wp2_with fail
    refine wide_call2 (HMAY.out.mono ?_)
    clear HMAY
    rintro e W2 ⟨rfl, hbm⟩
    have hbm' : Below (S + 1 + 1 + 1 + 1) W1 W2 := by
      have := ((Below.refl W1.heap.size W1).drew).trans hbm
      rw [hz1] at this
      exact this
    clear hbm e0 e1 e2 d1
    gi_wp2_with fail
    refine wide_call2 ((graph_Each X _).mono ?_)
    rintro e W3 ⟨rfl, rfl⟩
    gi_wp2_with fail
    obtain ⟨T, hT⟩ : ∃ T, T = W2.heap.size := ⟨_, rfl⟩
    rw [← hT]
    obtain ⟨W5, hW5⟩ : ∃ W5, W5 = W2.alloc (.cells #[.int .u32 (wN X)] 58) := ⟨_, rfl⟩
    rw [← hW5]
    have hTS : S + 1 + 1 + 1 + 1 ≤ T := by rw [hT, ← hz1]; exact hbm'.size
    have hk5 : Blk W5 T 58 #[.int .u32 (wN X)] := by rw [hW5]; exact Blk.new_at hT.symm
    have hz5 : W5.heap.size = T + 1 := by rw [hW5, hT]; exact size_alloc' W2 _
    have hb15 : Below (S + 1 + 1 + 1 + 1) W1 W5 := by rw [hW5]; exact hbm'.alloc (by omega) _
    have hb5 : Below S w W5 := HB1.out.trans (hb15.mono (by omega))
    have q0 : Blk W5 S 97 #[.pointer (some ⟨Q, 0, none⟩)] := HK0.out.below hb15 (by omega)
    have q1 : Blk W5 (S + 1) 3 #[.int .i64 m] := HK1.out.below hb15 (by omega)
    have q2 : Blk W5 (S + 1 + 1) 3 #[.int .i64 k] := HK2.out.below hb15 (by omega)
    have q6 : Blk W5 (S + 1 + 1 + 1) 4 #[.bool false] := HK3.out.below hb15 (by omega)
    have q3 : Blk W5 Q 101 #[.slice A N c, .slice (some ⟨g, 0, none⟩) N cl] := HQ1.out.below hb15 (by omega)
    have q4 : Own W5 B 3 1 icell (some ⟨g, 0, none⟩) cl (hueL N l) := HO1.out.below hb15 (by omega)
    have q5 : Els W5 B 1 wcell A (nearL N es) := HRT.out.below (hb15.mono (by omega))
    have htw : TabOk W5 := HT1.out.below hb15 (by omega)
    have HB5 := Lib.hid hb5
    clear HK0 HK1 HK2 HK3 HQ1 HO1 HRT HB1 HW1 HT1 hW5 hbm' hb15 hT hb5 hz1
    have HK0 := Lib.hid q0
    have HK1 := Lib.hid q1
    have HK2 := Lib.hid q2
    have HK3 := Lib.hid q6
    have HQ5 := Lib.hid q3
    have HO5 := Lib.hid q4
    have HRT := Lib.hid q5
    have HK5 := Lib.hid hk5
    have HTW := Lib.hid htw
    have HSw : Hid (S = w.heap.size) := HS
    clear q0 q1 q2 q3 q4 q5 q6 hk5
    have hk5b : Boxed W5 T 58 (.int .u32 (wN X)) := HK5.out
    have hmarks : ∀ (D : Nat) (W : World), W5.heap.size ≤ D → Held [g, S + 1 + 1 + 1, T] W5 W → W.heap[D]? = some (.deferred (some [])) → Marks S [{ target := .collected D, args := #[] }] W := fun D W hD hh hdef =>
      (Marks.nil S W5).cons rfl hD (by omega) (fun k hk he => (hh.block k hk (fun hm => by
        have hcell : (Obj.deferred (some [])).isCells = true := by
          simp only [List.mem_cons, List.not_mem_nil, or_false] at hm
          rcases hm with rfl | rfl | rfl
          · exact HO5.out.isCells _ he
          · exact HK3.out.isCells _ he
          · exact HK5.out.isCells _ he
        cases hcell)).trans he) hdef
    have hfin : ∀ (W W' : World), Held [g, S + 1 + 1 + 1, T] W5 W → Shut S W W' → Held [g] w W' := fun W W' hh hw' =>
      ⟨hw'.1.os.trans (hh.os.trans HB5.out.os), hw'.1.tape.trans (hh.tape.trans HB5.out.tape), hw'.1.output.trans (hh.output.trans HB5.out.output), Nat.le_trans HB5.out.size (Nat.le_trans hh.size hw'.1.size), fun k hk hx => by
        have hkS : k < S := by rw [HSw.out]; exact hk
        have hkn : k ∉ [g, S + 1 + 1 + 1, T] := by simp at hx ⊢; omega
        exact (hw'.1.block k hkS).trans ((hh.block k (by omega) hkn).trans (HB5.out.block k hkS))⟩
    refine wpIn_bits (p := 20) (q := 7) 9 79 T 58 (.int .u32 (wN X)) (bitsL X) [g, S + 1 + 1 + 1, T] rfl (enters_of Tryd.func79 (by kernel_rfl) rfl)
      (Each1_seq _ _ _ (by omega)) hk5b htw (by simp)
      (fun pre W => pre.findSome? (fun j => paintF es k f (l ++ [j])) = none ∧ Own W B 3 1 icell (some ⟨g, 0, none⟩) cl (hueL N l) ∧ Blk W (S + 1 + 1 + 1) 4 #[.bool false])
      (fun cd pre W => cd = .ret ∧ ∃ u : List Nat, pre.findSome? (fun j => paintF es k f (l ++ [j])) = some u ∧ Own W B 3 1 icell (some ⟨g, 0, none⟩) cl (intsOf u) ∧ Blk W (S + 1 + 1 + 1) 4 #[.bool true])
      (fun s X Y row h hg hrow => by obtain ⟨h1, h3, h5⟩ := h; exact ⟨h1, own_kept h3 hg hrow, blk_kept h5 hg hrow⟩)
      (fun cd s X Y row h hg hrow => by obtain ⟨h0, u, h1, h3, h5⟩ := h; exact ⟨h0, u, h1, own_kept h3 hg hrow, blk_kept h5 hg hrow⟩)
      (fun s X v h => by obtain ⟨h1, h3, h5⟩ := h; exact ⟨h1, h3.far (fun he => (show g ≠ T by omega) (by injection he)) v, h5.far (show S + 1 + 1 + 1 ≠ T by omega) v⟩)
      ⟨rfl, HO5.out, HK3.out⟩ ?assign ?body ?done ?stop
    case assign =>
      intro l' j W K hK
      simp only [List.setIfInBounds_toArray, List.set_cons_succ, List.set_cons_zero] at hK ⊢
      gi_wp2_with fail
      exact hK
    case body =>
      intro l' pre j W hh hi hpre
      obtain ⟨hfs, hoW, hk3W⟩ := hi
      have hSW := hh.size
      have hgo1 := own_lt hoW
      have hp0 : Blk W S 97 #[.pointer (some ⟨Q, 0, none⟩)] := HK0.out.held hh (by simp; omega)
      have hp1 : Blk W (S + 1) 3 #[.int .i64 m] := HK1.out.held hh (by simp; omega)
      have hp2 : Blk W (S + 1 + 1) 3 #[.int .i64 k] := HK2.out.held hh (by simp; omega)
      have hqW : Blk W Q 101 #[.slice A N c, .slice (some ⟨g, 0, none⟩) N cl] := HQ5.out.held hh (by simp; omega)
      have hrtW : Els W B 1 wcell A (nearL N es) := HRT.out.below (hh.to (B := B) (by omega) (by simp; omega))
      have htW : TabOk W := HTW.out.block hh.size (hh.block 0 (by omega) (by simp; omega))
      have hlm : l.length = m := HM.out
      have hml : m < (hueL N l).length := by rw [hueL_length (by omega)]; exact hmN
      obtain ⟨g', hge, _, _, x6, x7⟩ := hoW.cell1 hml
      obtain rfl : g = g' := by injection hge with h; injection h
      have x0 := hp0.cell 0
      have x1 := hqW.cell 1
      have x2 := hp1.cell 0
      obtain ⟨W6, hW6⟩ : ∃ W6, W6 = (W.setCell ⟨g, m, none⟩ (.int .i64 j)).drew := ⟨_, rfl⟩
      have hset : (hueL N l).set m (j : Int) = hueL N (l ++ [j]) := by rw [← hlm]; exact hueL_set (by omega) j
      have ho6 : Own W6 B 3 1 icell (some ⟨g, 0, none⟩) cl (hueL N (l ++ [j])) := by
        rw [hW6, ← hset]
        exact (hoW.put1 hml).drew
      have hz6 : W6.heap.size = W.heap.size := by rw [hW6]; simp [World.setCell]
      have hh6 : Held [g] W W6 := by rw [hW6]; exact ((Held.refl [g] W).setCell (p := ⟨g, m, none⟩) (by simp) _).drew1
      have hq6 : Blk W6 Q 101 #[.slice A N c, .slice (some ⟨g, 0, none⟩) N cl] := hqW.held hh6 (by simp; omega)
      have hp06 : Blk W6 S 97 #[.pointer (some ⟨Q, 0, none⟩)] := hp0.held hh6 (by simp; omega)
      have hp16 : Blk W6 (S + 1) 3 #[.int .i64 m] := hp1.held hh6 (by simp; omega)
      have hp26 : Blk W6 (S + 1 + 1) 3 #[.int .i64 k] := hp2.held hh6 (by simp; omega)
      have hk36 : Blk W6 (S + 1 + 1 + 1) 4 #[.bool false] := hk3W.held hh6 (by simp; omega)
      have hrt6 : Els W6 B 1 wcell A (nearL N es) := hrtW.below (hh6.to (B := B) (by omega) (by simp; omega))
      have ht6 : TabOk W6 := htW.block hh6.size (hh6.block 0 (by omega) (by simp; omega))
      have HCALL := Lib.hid (HIH.out (l ++ [j]) (m + 1) W6 (by rw [List.length_append, HM.out]; rfl) (by omega) hrt6 hq6 ho6 ht6)
      have hmm : IntKind.i64.wrap ((m : Int) + 1) = ((m + 1 : Nat) : Int) := by rw [IntKind.wrap_i64]; omega
      have hmN' : (m : Int) < (N : Int) := by omega
      have hm0' : (0 : Int) ≤ (m : Int) := by omega
      have HW6 := Lib.hid hW6
      have HFS := Lib.hid hfs
      have HH := Lib.hid hh
      have HH6 := Lib.hid hh6
      have HOW := Lib.hid hoW
      have HQ6 := Lib.hid hq6
      have HO6 := Lib.hid ho6
      have HP06 := Lib.hid hp06
      have HP16 := Lib.hid hp16
      have HK36 := Lib.hid hk36
      have r0 := hp06.cell 0
      have r1 := hp16.cell 0
      have r2 := hp26.cell 0
      simp only [List.setIfInBounds_toArray, List.set_cons_succ, List.set_cons_zero]
      clear hW6 hfs hoW hk3W hh hp0 hp1 hp2 hqW hrtW htW hge hset ho6 hh6 hq6 hp06 hp16 hp26 hk36 hrt6 ht6 hpre
      gi_wp2_with fail
      refine region_round 7 8 (fun w' => w' = W.drew) (by kernel_rfl) rfl (by kernel_rfl) ?_
      refine anyC_reads (by kernel_rfl) [0, 1, 2, 3, 4, 5, 6] ?opk ?ohk 1 _ _ _ (by kernel_rfl) ?okk
      case ohk => (simp only [List.filterMap_cons, List.filterMap_nil, List.getElem?_toArray, List.getElem?_cons_zero, List.getElem?_cons_succ]; try rfl)
      repeat (
        refine readC_step (v := ?_) rfl (fun w' hw' => ?_) ?_
        rotate_left
        focus (subst hw'; go_simp; try with_reducible rfl)
        go_simp)
      refine readC_nil ?_
      refine anyC_one (i := 7) (by kernel_rfl) rfl rfl (.inr rfl) ?_
      go_simp
      refine anyC_end (by kernel_rfl) (.inl (by kernel_rfl)) ?_
      rw [← HW6.out]
      clear x0 x1 x2 x6 x7
      gi_wp2_with fail
      refine round_call2 (HCALL.out.mono ?_)
      clear HCALL
      rintro e v7 ⟨hh7, hres⟩
      have hz6s := HH6.out.size
      have hall : Held [g] W v7 := HH6.out.trans hh7
      have hk7 : Blk v7 (S + 1 + 1 + 1) 4 #[.bool false] := HK36.out.held hh7 (by simp; omega)
      have hkf : KeepsFrom W5.heap.size W v7 := KeepsFrom.held hall (fun k hk o ho => by
        simp only [List.mem_cons, List.not_mem_nil, or_false] at hk
        rcases hk with rfl
        exact HOW.out.isCells o ho)
      have hkp : KpE T 58 W v7 := KpE.held hall (by simp; omega) (by simp; omega)
      have hhx : Held [g, S + 1 + 1 + 1, T] W5 v7 := HH.out.then hall (fun i hi hlt => by simp at hi ⊢; omega)
      have HK7 := Lib.hid hk7
      have HKF := Lib.hid hkf
      have HKP := Lib.hid hkp
      have HHX := Lib.hid hhx
      cases hrow : paintF es k f (l ++ [j]) with
      | some u =>
        rw [hrow] at hres
        obtain ⟨rfl, ho7⟩ := hres
        have HROW := Lib.hid hrow
        have HO7 := Lib.hid ho7
        have c7 := hk7.cell 0
        have f7 := hk7.frozen 0
        clear hrow ho7 hall hk7 hkf hkp hhx hh7
        gi_wp2_with fail
        refine ⟨HKF.out.trans (KeepsFrom.box (t := 4) HK7.out _), HHX.out.setCell (p := ⟨S + 1 + 1 + 1, 0, none⟩) (by simp) _, rfl, u, ?_, HO7.out.far (p := ⟨S + 1 + 1 + 1, 0, none⟩) (fun he => (show g ≠ S + 1 + 1 + 1 by omega) (by injection he)) _, HK7.out.put 0 _⟩
        rw [List.findSome?_append, HFS.out]
        simp [HROW.out]
      | none =>
        rw [hrow] at hres
        obtain ⟨rfl, ho7⟩ := hres
        have hml7 : m < (hueL N (l ++ [j])).length := by rw [hueL_length (by rw [List.length_append, List.length_singleton, HM.out]; omega)]; exact hmN
        obtain ⟨g', hge, _, _, z6, z7⟩ := ho7.cell1 hml7
        obtain rfl : g = g' := by injection hge with h; injection h
        have hp7 : Blk v7 S 97 #[.pointer (some ⟨Q, 0, none⟩)] := HP06.out.held hh7 (by simp; omega)
        have hp17 : Blk v7 (S + 1) 3 #[.int .i64 m] := HP16.out.held hh7 (by simp; omega)
        have hq7 : Blk v7 Q 101 #[.slice A N c, .slice (some ⟨g, 0, none⟩) N cl] := HQ6.out.held hh7 (by simp; omega)
        have c70 := hp7.cell 0
        have c71 := hq7.cell 1
        have c72 := hp17.cell 0
        have hset : (hueL N (l ++ [j])).set m (-1) = hueL N l := by rw [← HM.out]; exact hueL_unset (by rw [HM.out]; exact hmN) j
        have ho8 : Own (v7.setCell ⟨g, m, none⟩ (.int .i64 (-1))) B 3 1 icell (some ⟨g, 0, none⟩) cl (hueL N l) := by
          rw [← hset]
          exact ho7.put1 hml7
        have HROW := Lib.hid hrow
        have HO8 := Lib.hid ho8
        have hsx : Held [g] v7 (v7.setCell ⟨g, m, none⟩ (.int .i64 (-1))) := (Held.refl [g] v7).setCell (p := ⟨g, m, none⟩) (by simp) _
        have hkx : KeepsFrom W5.heap.size v7 (v7.setCell ⟨g, m, none⟩ (.int .i64 (-1))) := KeepsFrom.held hsx (fun k hk o ho => by
          simp only [List.mem_cons, List.not_mem_nil, or_false] at hk
          subst hk
          exact ho7.isCells o ho)
        have hs7 := hhx.size
        have hkpx : KpE T 58 v7 (v7.setCell ⟨g, m, none⟩ (.int .i64 (-1))) := KpE.held hsx (by simp; omega) (by simp; omega)
        have HKX := Lib.hid hkx
        have HKPX := Lib.hid hkpx
        clear hrow ho7 hall hk7 hkf hkp hhx hh7 hge hp7 hp17 hq7 hset ho8 hsx hkx hkpx
        gi_wp2_with fail
        refine region_round 6 7 (fun w' => w' = v7.drew) (by kernel_rfl) rfl (by kernel_rfl) ?_
        refine anyC_reads (by kernel_rfl) [0, 1, 2, 3, 4, 5] ?opm ?ohm 1 _ _ _ (by kernel_rfl) ?okm
        case ohm => (simp only [List.filterMap_cons, List.filterMap_nil, List.getElem?_toArray, List.getElem?_cons_zero, List.getElem?_cons_succ]; try rfl)
        repeat (
          refine readC_step (v := ?_) rfl (fun w' hw' => ?_) ?_
          rotate_left
          focus (subst hw'; go_simp; try with_reducible rfl)
          go_simp)
        refine readC_nil ?_
        refine anyC_one (i := 6) (by kernel_rfl) rfl rfl (.inr rfl) ?_
        go_simp
        refine anyC_end (by kernel_rfl) (.inl (by kernel_rfl)) ?_
        gi_wp2_with fail
        exact ⟨KeepsFrom.drew (HKF.out.trans HKX.out), (HKP.out.trans HKPX.out).drew, (HHX.out.setCell (p := ⟨g, m, none⟩) (by simp) _).drew1, findSome_more HFS.out HROW.out, HO8.out.drew, (HK7.out.far (p := ⟨g, m, none⟩) (show S + 1 + 1 + 1 ≠ g by omega) _).drew⟩
    case done =>
      intro D W hD hh hi hdef
      obtain ⟨hfs, hoW, hk2W⟩ := hi
      have HMK := Lib.hid (hmarks D W hD hh hdef)
      have f2 := hk2W.frozen 0
      have c2 := hk2W.cell 0
      have HM2 := Lib.hid (HMK.out.setCell (p := ⟨S + 1 + 1 + 1, 0, none⟩) (.bool false) (fun o ho he => by rw [show W.heap[S + 1 + 1 + 1]? = _ from hk2W] at ho; cases ho; cases he))
      have HO2 := Lib.hid (hoW.far (p := ⟨S + 1 + 1 + 1, 0, none⟩) (fun he => (show g ≠ S + 1 + 1 + 1 by omega) (by injection he)) (.bool false))
      have HP2 := Lib.hid (hk2W.put 0 (.bool false))
      have HHH := Lib.hid (hh.setCell (p := ⟨S + 1 + 1 + 1, 0, none⟩) (by simp) (.bool false))
      have HFS := Lib.hid hfs
      clear hh hdef hfs hoW hk2W HMK htw hk5b
      gi_wp2_with fail
      refine bodyPostM_ret HM2.out fun w' hw' => ?_
      have hv := (HP2.out.shut hw').cell 0
      refine ⟨.bool false, by simp [results, Tryd.results67, go_sem, hv], hfin _ _ HHH.out hw', ?_⟩
      rw [HX.out, HFS.out]
      exact ⟨rfl, HO2.out.shut hw'⟩
    case stop =>
      rintro D cd pre W hD hpre hh ⟨rfl, u, hfs, hoW, hk2W⟩ hdef
      have HMK := Lib.hid (hmarks D W hD hh hdef)
      have HO2 := Lib.hid hoW
      have HP2 := Lib.hid hk2W
      have HHH := Lib.hid hh
      have hall : paintF es k (f + 1) l = some u := by
        rw [HX.out]
        obtain ⟨z, hz⟩ := hpre
        rw [← hz, List.findSome?_append, hfs]
        rfl
      have HALL := Lib.hid hall
      clear hh hdef hfs hoW hk2W hpre htw hk5b hall
      gi_wp2_with fail
      refine bodyPostM_ret HMK.out fun w' hw' => ?_
      have hv := (HP2.out.shut hw').cell 0
      refine ⟨.bool true, by simp [results, Tryd.results67, go_sem, hv], hfin _ _ HHH.out hw', ?_⟩
      rw [HALL.out]
      exact ⟨rfl, HO2.out.shut hw'⟩
end Go.Proofs.YtfaifadfilndmaaDoor
