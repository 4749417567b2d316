/- One more on the left is paired, others perhaps with others: the search's walk. Conditions: the words read as a list; whom each on the right has, and who was asked, lie in blocks of their own; the table. -/
import Derived.Test.YtokmialpclcodaaDoorMostP
import Derived.Test.YtokmialpclcodaaDoorSeekP
import Derived.Test.YtokmialpclcodaaDoorHeld
import Derived.Test.YtokmialpclcodaaDoorHeldB
import Derived.BigRegionIn
import Derived.Sort.QuietIn
namespace Go.Proofs.YtokmialpclcodaaDoor
open Go.RowKit Go.Shelf
attribute [local go_sem] Oper.semAt_some
attribute [local go_sem ↓] w_and w_or w_xor w_andNot w_and1 w_and255 w_xor1 w_or0 w_shl w_shl1 w_shr w_sub w_add w_sub1 w_add1
attribute [local go_sem] w_eq0 w_ne0 w_eq1 w_eq w_ne

theorem bit_one (x : BitVec 32) (i : Nat) : (wAnd (wShr x i) w1 == w1) = x.getLsbD i := by
  rw [Bool.eq_iff_iff, beq_iff_eq]
  constructor
  · intro h
    have h0 := congrArg (fun y : BitVec 32 => y.getLsbD 0) h
    simp only [b_and, b_shr, b_1] at h0
    simpa using h0
  · intro h
    refine w_ext fun m _ => ?_
    rw [b_and, b_shr, b_1]
    by_cases hm : m = 0
    · subst hm; simp [h]
    · simp [hm]
/-- Whom each on the right has. -/
def PB (w : World) (g : Nat) (p : List Int) : Prop := Blk w g 94 (p.map fun x => Value.int .i64 x).toArray
theorem PB.cell {w : World} {g : Nat} {p : List Int} (h : PB w g p) {j : Nat} (hj : j < p.length) : w.cell? ⟨g, j, none⟩ = some (.int .i64 (la p j)) := by
  have := Blk.cell h j
  rw [this]
  simp [la, hj]
theorem PB.put {w : World} {g : Nat} {p : List Int} (h : PB w g p) (j : Nat) (x : Int) : PB (w.setCell ⟨g, j, none⟩ (.int .i64 x)) g (p.set j x) := by
  have := Blk.put h j (.int .i64 x)
  unfold PB
  have e : ((p.set j x).map fun x => Value.int .i64 x).toArray = (p.map fun x => Value.int .i64 x).toArray.setIfInBounds j (.int .i64 x) := by
    simp [List.map_set]
  rw [e]
  exact this
/-! Some of the list, then the others. -/
theorem tryJ_app (rec : Nat → List Int → BitVec 32 → KRes) (i : Nat) : ∀ (pre post : List Nat) (p : List Int) (a : BitVec 32), (tryJ rec i pre p a).1 = false → tryJ rec i (pre ++ post) p a = tryJ rec i post (tryJ rec i pre p a).2.1 (tryJ rec i pre p a).2.2
  | [], post, p, a, _ => rfl
  | j :: pre, post, p, a, h => by
    rw [List.cons_append, tryJ]
    rw [tryJ] at h ⊢
    split at h
    · rename_i hj
      rw [if_pos hj, if_pos hj]
      exact tryJ_app rec i pre post p a h
    · rename_i hj
      rw [if_neg hj, if_neg hj]
      split at h
      · cases h
      · rename_i hp
        rw [if_neg hp, if_neg hp]
        split at h
        · cases h
        · rename_i hr
          rw [if_neg hr, if_neg hr]
          exact tryJ_app rec i pre post _ _ h
theorem tryJ_hit (rec : Nat → List Int → BitVec 32 → KRes) (i : Nat) : ∀ (pre post : List Nat) (p : List Int) (a : BitVec 32), (tryJ rec i pre p a).1 = true → tryJ rec i (pre ++ post) p a = tryJ rec i pre p a
  | [], post, p, a, h => by cases h
  | j :: pre, post, p, a, h => by
    rw [List.cons_append, tryJ]
    rw [tryJ] at h ⊢
    split at h
    · rename_i hj
      rw [if_pos hj, if_pos hj]
      exact tryJ_hit rec i pre post p a h
    · rename_i hj
      rw [if_neg hj, if_neg hj]
      split at h
      · rename_i hp; rw [if_pos hp, if_pos hp]
      · rename_i hp
        rw [if_neg hp, if_neg hp]
        split at h
        · rename_i hr; rw [if_pos hr, if_pos hr]
        · rename_i hr
          rw [if_neg hr, if_neg hr]
          exact tryJ_hit rec i pre post _ _ h
def TryR (r : KRes) (g q : Nat) (e : Ending) (w : World) : Prop := e = .returned (.bool r.1) ∧ PB w g r.2.1 ∧ Blk w q 51 #[.int .u32 (wN r.2.2)]

/-- While the search goes on; when it has found one. -/
def TryI (rec : Nat → List Int → BitVec 32 → KRes) (i : Nat) (p : List Int) (a : BitVec 32) (g q s : Nat) (pre : List Nat) (W : World) : Prop :=
  (tryJ rec i pre p a).1 = false ∧ PB W g p ∧ Blk W q 51 #[.int .u32 (wN (tryJ rec i pre p a).2.2)] ∧ Blk W s 4 #[.bool false]
def TryX (rec : Nat → List Int → BitVec 32 → KRes) (i : Nat) (p : List Int) (a : BitVec 32) (g q s : Nat) (cd : Code) (pre : List Nat) (W : World) : Prop :=
  cd = .ret ∧ (tryJ rec i pre p a).1 = true ∧ PB W g (tryJ rec i pre p a).2.1 ∧ Blk W q 51 #[.int .u32 (wN (tryJ rec i pre p a).2.2)] ∧ Blk W s 4 #[.bool true]

set_option maxRecDepth 100000 in
set_option maxHeartbeats 8000000 in
theorem pairs_try (near : List (BitVec 32)) (n : Nat) (hn : near.length = n) (h8 : n ≤ 8) (hw : ∀ k q, Nr near k q → q < 8) (A : Option Addr) (c B g q : Nat) (hB0 : 0 < B) (hBg : B ≤ g) (hBq : B ≤ q) (hgq : g ≠ q) : ∀ (f i : Nat) (p : List Int) (a : BitVec 32) (w : World), i < n → p.length = 8 → (∀ j, j < 8 → la p j < n) → unA a < (f : Int) → Els w B 1 wcell A near →
    PB w g p → Blk w q 51 #[.int .u32 (wN a)] → TabOk w →
    Calls Tryd.prog 66 #[.pointer (some ⟨g, 0, none⟩), .slice A n c, .int .i64 i, .pointer (some ⟨q, 0, none⟩)] w fun e w' => Held [g, q] w w' ∧ TryR (tryF near f i p a) g q e w' := by
  have HN := Lib.hid hn
  have HW := Lib.hid hw
  clear hn hw
  intro f
  induction f with
  | zero =>
    intro i p a w _ _ _ hu _ _ _ _
    have := unA_nn a
    omega
  | succ f ih =>
    intro i p a w hin hp8 hpn hun hrt hpb hqb htab
    have HIH := Lib.hid ih
    have hgl := Blk.lt hpb
    have hql := hqb.lt
    have hspec := tryF_spec HW.out hp8 f
    have HSPEC := Lib.hid hspec
    have HPL := Lib.hid hp8
    have HPN := Lib.hid hpn
    have HUN := Lib.hid hun
    obtain ⟨S, hS⟩ : ∃ S, S = w.heap.size := ⟨_, rfl⟩
    obtain ⟨W1, hW1⟩ : ∃ W1, W1 = (((((w.alloc (.cells #[.pointer (some ⟨g, 0, none⟩)] 111)).alloc (.cells #[.slice A n c] 22)).alloc (.cells #[.int .i64 i] 3)).alloc (.cells #[.pointer (some ⟨q, 0, none⟩)] 96)).alloc (.cells #[.bool false] 4)) := ⟨_, rfl⟩
    have hB1 : Below S w W1 := by rw [hW1, hS]; exact (((((Below.refl _ w).alloc (Nat.le_refl _) _).alloc (by simp) _).alloc (by first | (simp; done) | (simp; omega)) _).alloc (by first | (simp; done) | (simp; omega)) _).alloc (by first | (simp; done) | (simp; omega)) _
    have hk0 : Blk W1 S 111 #[.pointer (some ⟨g, 0, none⟩)] := by rw [hW1, hS]; exact ((((Blk.new w _ _).alloc _).alloc _).alloc _).alloc _
    have hk1 : Blk W1 (S + 1) 22 #[.slice A n c] := by rw [hW1, hS]; exact (((Blk.new_at (by simp)).alloc _).alloc _).alloc _
    have hk2 : Blk W1 (S + 1 + 1) 3 #[.int .i64 i] := by rw [hW1, hS]; exact ((Blk.new_at (by simp)).alloc _).alloc _
    have hk3 : Blk W1 (S + 1 + 1 + 1) 96 #[.pointer (some ⟨q, 0, none⟩)] := by rw [hW1, hS]; exact (Blk.new_at (by simp)).alloc _
    have hk4 : Blk W1 (S + 1 + 1 + 1 + 1) 4 #[.bool false] := by rw [hW1, hS]; exact Blk.new_at (by simp)
    have hz1 : W1.heap.size = S + 1 + 1 + 1 + 1 + 1 := by rw [hW1, hS]; simp
    rw [← hS] at hgl hql
    have hpb1 : PB W1 g p := Blk.below hpb hB1 hgl
    have hqb1 : Blk W1 q 51 #[.int .u32 (wN a)] := hqb.below hB1 hql
    have hrt1 : Els W1 B 1 wcell A near := hrt.below (hB1.mono (by omega))
    have hS0 : 0 < S := by omega
    have ht1 : TabOk W1 := htab.below hB1 hS0
    have hil : i < near.length := by rw [HN.out]; exact hin
    obtain ⟨b3, off3, hAe, hb3B, x3⟩ := hrt1.at1 hil
    subst hAe
    obtain ⟨X, hX⟩ : ∃ X, X = lw near i := ⟨_, rfl⟩
    rw [← lw_at near i hil, ← hX] at x3
    rw [hW1] at x3
    have e0 := hk1.cell 0
    have e1 := hk2.cell 0
    have HX : Hid (∀ j, j ∈ bitsL X → Nr near i j) := Lib.hid (fun j hj => by unfold Nr; rw [← hX]; exact mem_bitsL.1 hj)
    have HTF : Hid (tryF near (f + 1) i p a = tryJ (tryF near f) i (bitsL X) p a) := Lib.hid (by rw [tryF, ← hX])
    have HS := Lib.hid hS
    have HW1 := Lib.hid hW1
    have HB1 := Lib.hid hB1
    clear ih htab hpb hqb hrt hS hW1 hB1 hX hspec hpn hp8 hun
    refine (callsIn_wide (n := 9)).1 ?_
    refine callsIn_of_wp_marks Tryd.func66 rfl trivial ?_ rfl
    simp only [Tryd.ntmps66, List.size_toArray, List.length_cons, List.length_nil, Nat.reduceAdd, Nat.reduceSub, Array.replicate_succ, Array.replicate_zero, List.push_toArray, List.append_toArray, List.nil_append, List.cons_append]
    gi_wp2_with fail
    refine wide_call2 ((graph_Each X _).mono ?_)
    rintro e W3 ⟨rfl, rfl⟩
    gi_wp2_with fail
    rw [← HW1.out, ← HS.out]
    clear x3
    obtain ⟨T, hT⟩ : ∃ T, T = S + 1 + 1 + 1 + 1 + 1 := ⟨_, rfl⟩
    rw [← hT]
    obtain ⟨W5, hW5⟩ : ∃ W5, W5 = W1.alloc (.cells #[.int .u32 (wN X)] 51) := ⟨_, rfl⟩
    rw [← hW5]
    have hk5 : Blk W5 T 51 #[.int .u32 (wN X)] := by rw [hW5]; exact Blk.new_at (by rw [hz1, hT])
    have hz5 : W5.heap.size = T + 1 := by rw [hW5, hT, ← hz1]; exact size_alloc' W1 _
    have hb15 : Below (S + 1 + 1 + 1 + 1 + 1) W1 W5 := by rw [hW5]; exact (Below.refl _ W1).alloc (by omega) _
    have hb5 : Below S w W5 := HB1.out.trans (hb15.mono (by omega))
    have q0 : Blk W5 S 111 #[.pointer (some ⟨g, 0, none⟩)] := hk0.below hb15 (by omega)
    have q1 : Blk W5 (S + 1) 22 #[.slice (some ⟨b3, off3, none⟩) n c] := hk1.below hb15 (by omega)
    have q2 : Blk W5 (S + 1 + 1) 3 #[.int .i64 i] := hk2.below hb15 (by omega)
    have q3 : Blk W5 (S + 1 + 1 + 1) 96 #[.pointer (some ⟨q, 0, none⟩)] := hk3.below hb15 (by omega)
    have q4 : Blk W5 (S + 1 + 1 + 1 + 1) 4 #[.bool false] := hk4.below hb15 (by omega)
    have q5 : PB W5 g p := Blk.below hpb1 hb15 (by omega)
    have q6 : Blk W5 q 51 #[.int .u32 (wN a)] := hqb1.below hb15 (by omega)
    have q7 : Els W5 B 1 wcell (some ⟨b3, off3, none⟩) near := hrt1.below (hb15.mono (by omega))
    have htw : TabOk W5 := ht1.below hb15 (by omega)
    have HB5 := Lib.hid hb5
    have HTV := Lib.hid hT
    clear hk0 hk1 hk2 hk3 hk4 hpb1 hqb1 hrt1 HB1 HW1 ht1 hW5 hb15 hT hb5 hz1 e0 e1
    have HK0 := Lib.hid q0
    have HK1 := Lib.hid q1
    have HK2 := Lib.hid q2
    have HK3 := Lib.hid q3
    have HK4 := Lib.hid q4
    have HP5 := Lib.hid q5
    have HQ5 := Lib.hid q6
    have HRT := Lib.hid q7
    have HK5 := Lib.hid hk5
    have HTW := Lib.hid htw
    have HSw : Hid (S = w.heap.size) := HS
    have hTS1 : S + 1 + 1 + 1 + 1 + 1 ≤ T := by rw [HTV.out]; exact Nat.le_refl _
    have hTS2 : T ≤ S + 1 + 1 + 1 + 1 + 1 := by rw [HTV.out]; exact Nat.le_refl _
    clear q0 q1 q2 q3 q4 q5 q6 q7 hk5
    have hk5b : Boxed W5 T 51 (.int .u32 (wN X)) := HK5.out
    have hmarks : ∀ (D : Nat) (W : World), W5.heap.size ≤ D → Held [g, q, S + 1 + 1 + 1 + 1, T] W5 W → W.heap[D]? = some (.deferred (some [])) → Marks S [{ target := .collected D, args := #[] }] W := fun D W hD hh hdef =>
      (Marks.nil S W5).cons rfl hD (by omega) (fun k hk he => (hh.block k hk (fun hm => by
        have hcell : (Obj.deferred (some [])).isCells = true := by
          simp only [List.mem_cons, List.not_mem_nil, or_false] at hm
          rcases hm with rfl | rfl | rfl | rfl
          · exact Blk.isCells HP5.out _ he
          · exact HQ5.out.isCells _ he
          · exact HK4.out.isCells _ he
          · exact HK5.out.isCells _ he
        cases hcell)).trans he) hdef
    have hfin : ∀ (W W' : World), Held [g, q, S + 1 + 1 + 1 + 1, T] W5 W → Shut S W W' → Held [g, q] w W' := fun W W' hh hw' =>
      ⟨hw'.1.os.trans (hh.os.trans HB5.out.os), hw'.1.tape.trans (hh.tape.trans HB5.out.tape), hw'.1.output.trans (hh.output.trans HB5.out.output), Nat.le_trans HB5.out.size (Nat.le_trans hh.size hw'.1.size), fun k hk hx => by
        have hkS : k < S := by rw [HSw.out]; exact hk
        have hkn : k ∉ [g, q, S + 1 + 1 + 1 + 1, T] := by simp at hx ⊢; omega
        exact (hw'.1.block k hkS).trans ((hh.block k (by omega) hkn).trans (HB5.out.block k hkS))⟩
    refine wpIn_bits (p := 15) (q := 9) 9 67 T 51 (.int .u32 (wN X)) (bitsL X) [g, q, S + 1 + 1 + 1 + 1, T] rfl (enters_of Tryd.func67 (by kernel_rfl) rfl)
      (Each1_seq _ _ _ (by omega)) hk5b htw (by simp)
      (TryI (tryF near f) i p a g q (S + 1 + 1 + 1 + 1)) (TryX (tryF near f) i p a g q (S + 1 + 1 + 1 + 1))
      (fun s X Y row h hg hrow => by obtain ⟨h1, h3, h4, h5⟩ := h; exact ⟨h1, blk_kept h3 hg hrow, blk_kept h4 hg hrow, blk_kept h5 hg hrow⟩)
      (fun cd s X Y row h hg hrow => by obtain ⟨h0, h1, h3, h4, h5⟩ := h; exact ⟨h0, h1, blk_kept h3 hg hrow, blk_kept h4 hg hrow, blk_kept h5 hg hrow⟩)
      (fun s X v h => by obtain ⟨h1, h3, h4, h5⟩ := h; exact ⟨h1, Blk.far h3 (show g ≠ T by omega) v, h4.far (show q ≠ T by omega) v, h5.far (show S + 1 + 1 + 1 + 1 ≠ T by omega) v⟩)
      ⟨rfl, HP5.out, HQ5.out, HK4.out⟩ ?assign ?body ?done ?stop
    case assign =>
      intro l' j W K hK
      simp only [List.setIfInBounds_toArray, List.set_cons_succ, List.set_cons_zero] at hK ⊢
      gi_wp2_with fail
      exact hK
    case body =>
      intro l' pre j W hh hi hpre
      obtain ⟨hf0, hpW, hqW, hk4W⟩ := hi
      have hSW := hh.size
      have hgW := Blk.lt hpW
      have hnr : Nr near i j := HX.out j (by
        obtain ⟨z, hz⟩ := hpre
        rw [← hz]; simp)
      have hj8 := HW.out i j hnr
      have hp0 : Blk W S 111 #[.pointer (some ⟨g, 0, none⟩)] := HK0.out.held hh (by simp; omega)
      have hp1 : Blk W (S + 1) 22 #[.slice (some ⟨b3, off3, none⟩) n c] := HK1.out.held hh (by simp; omega)
      have hp2 : Blk W (S + 1 + 1) 3 #[.int .i64 i] := HK2.out.held hh (by simp; omega)
      have hp3 : Blk W (S + 1 + 1 + 1) 96 #[.pointer (some ⟨q, 0, none⟩)] := HK3.out.held hh (by simp; omega)
      have hrtW : Els W B 1 wcell (some ⟨b3, off3, none⟩) near := HRT.out.below (hh.to (B := B) (by omega) (by simp; omega))
      have htW : TabOk W := HTW.out.block hh.size (hh.block 0 (by omega) (by simp; omega))
      have hTJ : Hid (tryJ (tryF near f) i (pre ++ [j]) p a = tryJ (tryF near f) i [j] p (tryJ (tryF near f) i pre p a).2.2) := Lib.hid (by
        rw [tryJ_app _ _ _ _ _ _ hf0]
        congr 1
        exact ((tryJ_spec HW.out HPL.out HSPEC.out (a0 := a) pre a (fun j' hj' => HX.out j' (by
          obtain ⟨z, hz⟩ := hpre
          rw [← hz]; simp [hj'])) (fun _ h => h) (by have := HUN.out; push_cast at this; omega)).2 hf0).1)
      have hmono : unA (tryJ (tryF near f) i pre p a).2.2 ≤ unA a := unA_mono ((tryJ_spec HW.out HPL.out HSPEC.out (a0 := a) pre a (fun j' hj' => HX.out j' (by
          obtain ⟨z, hz⟩ := hpre
          rw [← hz]; simp [hj'])) (fun _ h => h) (by have := HUN.out; push_cast at this; omega)).2 hf0).2.mono
      obtain ⟨a1, ha1⟩ : ∃ a1, a1 = (tryJ (tryF near f) i pre p a).2.2 := ⟨_, rfl⟩
      rw [← ha1] at hTJ hmono hqW
      have x0 := hp3.cell 0
      have x1 := hqW.cell 0
      have HF0 := Lib.hid hf0
      have HA1 := Lib.hid ha1
      have HH := Lib.hid hh
      have HPW := Lib.hid hpW
      have HQW := Lib.hid hqW
      have HK4W := Lib.hid hk4W
      simp only [List.setIfInBounds_toArray, List.set_cons_succ, List.set_cons_zero]
      by_cases hbit : a1.getLsbD j = true
      · have hb1 : (wAnd (wShr a1 j) w1 == w1) = true := by rw [bit_one]; exact hbit
        have hT2 : tryJ (tryF near f) i (pre ++ [j]) p a = (false, p, a1) := by rw [hTJ.out, tryJ, if_pos hbit]; rfl
        have HT2 := Lib.hid hT2
        clear hf0 ha1 hh hpW hqW hk4W hp0 hp1 hp2 hp3 hrtW htW hbit hT2 hpre
        gi_wp2_with fail
        exact ⟨KeepsFrom.refl _ _, KpE.refl _ _ _, HH.out, by rw [HT2.out], HPW.out, by rw [HT2.out]; exact HQW.out, HK4W.out⟩
      · have hb1 : (wAnd (wShr a1 j) w1 == w1) = false := by rw [bit_one]; simpa using hbit
        have hbit' : a1.getLsbD j = false := by simpa using hbit
        obtain ⟨a2, ha2⟩ : ∃ a2, a2 = wOr a1 (wShl w1 j) := ⟨_, rfl⟩
        have hun2 : unA a2 < (f : Int) := by
          have h1 := unA_or hj8 hbit'
          have h2 := HUN.out
          rw [ha2]
          push_cast at h2
          omega
        obtain ⟨W6, hW6⟩ : ∃ W6, W6 = (W.setCell ⟨q, 0, none⟩ (.int .u32 (wN a2))).drew := ⟨_, rfl⟩
        have hh6 : Held [g, q] W W6 := by rw [hW6]; exact ((Held.refl [g, q] W).setCell (p := ⟨q, 0, none⟩) (by simp) _).drew1
        have hq6 : Blk W6 q 51 #[.int .u32 (wN a2)] := by rw [hW6]; exact (hqW.put 0 _).drew
        have hp6 : PB W6 g p := by rw [hW6]; exact Blk.drew (Blk.far hpW (show g ≠ q from hgq) _)
        have hp06 : Blk W6 S 111 #[.pointer (some ⟨g, 0, none⟩)] := hp0.held hh6 (by simp; omega)
        have hp16 : Blk W6 (S + 1) 22 #[.slice (some ⟨b3, off3, none⟩) n c] := hp1.held hh6 (by simp; omega)
        have hp26 : Blk W6 (S + 1 + 1) 3 #[.int .i64 i] := hp2.held hh6 (by simp; omega)
        have hp36 : Blk W6 (S + 1 + 1 + 1) 96 #[.pointer (some ⟨q, 0, none⟩)] := hp3.held hh6 (by simp; omega)
        have hk46 : Blk W6 (S + 1 + 1 + 1 + 1) 4 #[.bool false] := hk4W.held hh6 (by simp; omega)
        have hrt6 : Els W6 B 1 wcell (some ⟨b3, off3, none⟩) near := hrtW.below (hh6.to (B := B) (by omega) (by simp; omega))
        have ht6 : TabOk W6 := htW.block hh6.size (hh6.block 0 (by omega) (by simp; omega))
        have y0 := hp06.cell 0
        have y1 := hp6.cell (j := j) (by rw [HPL.out]; exact hj8)
        have y2 := hp16.cell 0
        have y3 := hp36.cell 0
        have y4 := hp26.cell 0
        have y5 := hk46.cell 0
        have yf := Blk.frozen hp6 j
        have yg := hk46.frozen 0
        have xf := hqW.frozen 0
        have hjI : (j : Int) < 8 := by omega
        have HW6 := Lib.hid hW6
        have HHA := Lib.hid hh6
        have HQ6 := Lib.hid hq6
        have HP6 := Lib.hid hp6
        have HK46 := Lib.hid hk46
        have HP06 := Lib.hid hp06
        have HP26 := Lib.hid hp26
        have HRT6 := Lib.hid hrt6
        have HT6 := Lib.hid ht6
        have HA2 := Lib.hid ha2
        have HBIT := Lib.hid hbit
        have hz6 := hh6.size
        have hcells : Hid (∀ k ∈ [g, q, S + 1 + 1 + 1 + 1], ∀ o : Obj, W.heap[k]? = some o → o.isCells = true) := Lib.hid (fun k hk o ho => by
          simp only [List.mem_cons, List.not_mem_nil, or_false] at hk
          rcases hk with rfl | rfl | rfl
          · exact Blk.isCells hpW o ho
          · exact hqW.isCells o ho
          · exact hk4W.isCells o ho)
        clear hf0 ha1 hh hpW hqW hk4W hp0 hp1 hp2 hp3 hrtW htW hbit hbit' hpre hW6 hh6 hq6 hp6 hp06 hp16 hp26 hp36 hk46 hrt6 ht6
        gi_wp2_with fail
        refine region_round 7 8 (fun w' => w' = W.drew) (by kernel_rfl) rfl (by kernel_rfl) ?_
        refine anyC_reads (by kernel_rfl) [0, 1, 2, 3, 4, 5, 6] ?opk ?ohk 1 _ _ _ (by kernel_rfl) ?okk
        case ohk => (simp only [List.filterMap_cons, List.filterMap_nil, List.getElem?_toArray, List.getElem?_cons_zero, List.getElem?_cons_succ]; try rfl)
        repeat (
          refine readC_step (v := ?_) rfl (fun w' hw' => ?_) ?_
          rotate_left
          focus (subst hw'; go_simp; try with_reducible rfl)
          go_simp)
        refine readC_nil ?_
        refine anyC_one (i := 7) (by kernel_rfl) rfl rfl (.inr rfl) ?_
        go_simp
        refine anyC_end (by kernel_rfl) (.inl (by kernel_rfl)) ?_
        rw [← ha2, ← HW6.out]
        clear x0 x1 xf ha2
        by_cases hfree : la p j < 0
        · have hdf : decide (la p j < 0) = true := decide_eq_true hfree
          have hT2 : tryJ (tryF near f) i (pre ++ [j]) p a = (true, p.set j (i : Int), a2) := by rw [hTJ.out, tryJ, if_neg HBIT.out, if_pos hfree, ← HA2.out]
          have HT2 := Lib.hid hT2
          obtain ⟨x, hx⟩ : ∃ x, x = la p j := ⟨_, rfl⟩
          rw [← hx] at y1 hdf
          clear hT2 hfree hx
          gi_wp2_with fail
          refine region_round 99 17 (fun w' => w' = W6.drew) (by kernel_rfl) rfl (by kernel_rfl) ?_
          refine anyC_reads (by kernel_rfl) [0, 1, 2, 3, 4, 5, 6, 7, 8, 9, 10, 11, 12, 13, 14, 15, 16] ?opl ?ohl 0 _ _ _ (by kernel_rfl) ?okl
          case ohl => (simp only [List.filterMap_cons, List.filterMap_nil, List.getElem?_toArray, List.getElem?_cons_zero, List.getElem?_cons_succ]; try rfl)
          repeat (first
            | (refine readC_step (v := ?_) rfl (fun w' hw' => ?_) ?_
               rotate_left
               focus (subst hw'; go_simp; try with_reducible rfl)
               go_simp)
            | (refine readC_skip rfl ?_; go_simp))
          refine readC_nil ?_
          refine anyC_end (by kernel_rfl) (.inr rfl) ?_
          gi_wp2_with fail
          refine region_round 5 6 (fun w' => w' = W6.drew.drew) (by kernel_rfl) rfl (by kernel_rfl) ?_
          refine anyC_reads (by kernel_rfl) [0, 1, 2, 3, 4] ?opm ?ohm 1 _ _ _ (by kernel_rfl) ?okm
          case ohm => (simp only [List.filterMap_cons, List.filterMap_nil, List.getElem?_toArray, List.getElem?_cons_zero, List.getElem?_cons_succ]; try rfl)
          repeat (
            refine readC_step (v := ?_) rfl (fun w' hw' => ?_) ?_
            rotate_left
            focus (subst hw'; go_simp; try with_reducible rfl)
            go_simp)
          refine readC_nil ?_
          refine anyC_one (i := 5) (by kernel_rfl) rfl rfl (.inr rfl) ?_
          go_simp
          refine anyC_end (by kernel_rfl) (.inl (by kernel_rfl)) ?_
          gi_wp2_with fail
          have hs8 : Held [g, q, S + 1 + 1 + 1 + 1] W6 ((W6.setCell ⟨g, j, none⟩ (.int .i64 i)).setCell ⟨S + 1 + 1 + 1 + 1, 0, none⟩ (.bool true)).drew.drew := ((((Held.refl _ W6).setCell (p := ⟨g, j, none⟩) (by simp) _).setCell (p := ⟨S + 1 + 1 + 1 + 1, 0, none⟩) (by simp) _).drew1).drew1
          have hall : Held [g, q, S + 1 + 1 + 1 + 1] W ((W6.setCell ⟨g, j, none⟩ (.int .i64 i)).setCell ⟨S + 1 + 1 + 1 + 1, 0, none⟩ (.bool true)).drew.drew := (HHA.out.mono (fun k hk _ => by simp at hk ⊢; omega)).trans hs8
          refine ⟨KeepsFrom.held hall hcells.out, HH.out.then hall (fun k hk _ => by simp at hk ⊢; omega), rfl, by rw [HT2.out], ?_, ?_, ?_⟩
          · rw [HT2.out]
            exact Blk.drew (Blk.drew (Blk.far (PB.put HP6.out j i) (p := ⟨S + 1 + 1 + 1 + 1, 0, none⟩) (show g ≠ S + 1 + 1 + 1 + 1 by omega) _))
          · rw [HT2.out]
            exact (((HQ6.out.far (p := ⟨g, j, none⟩) (show q ≠ g from fun e => hgq e.symm) _).far (p := ⟨S + 1 + 1 + 1 + 1, 0, none⟩) (show q ≠ S + 1 + 1 + 1 + 1 by omega) _).drew).drew
          · exact (((HK46.out.far (p := ⟨g, j, none⟩) (show S + 1 + 1 + 1 + 1 ≠ g by omega) _).put 0 (.bool true)).drew).drew
        · have hdf : decide (la p j < 0) = false := decide_eq_false hfree
          obtain ⟨k, hk⟩ := Int.eq_ofNat_of_zero_le (show 0 ≤ la p j by omega)
          have hkn : k < n := by have := HPN.out j hj8; omega
          have hkt : (la p j).toNat = k := by rw [hk]; rfl
          have hT2 : tryJ (tryF near f) i (pre ++ [j]) p a = if (tryF near f k p a2).1 = true then (true, (tryF near f k p a2).2.1.set j (i : Int), (tryF near f k p a2).2.2) else (false, (tryF near f k p a2).2.1, (tryF near f k p a2).2.2) := by rw [hTJ.out, tryJ, if_neg HBIT.out, if_neg hfree, ← HA2.out, hkt]; rfl
          have HT2 := Lib.hid hT2
          have HCALL := Lib.hid (HIH.out k p a2 W6.drew hkn HPL.out HPN.out hun2 (Els.drew HRT6.out) (Blk.drew HP6.out) HQ6.out.drew (TabOk.block HT6.out (Nat.le_refl _) rfl))
          obtain ⟨r, hr⟩ : ∃ r, r = tryF near f k p a2 := ⟨_, rfl⟩
          have HSAME : Hid (r.1 = false → r.2.1 = p) := Lib.hid (fun h => by rw [hr] at h ⊢; exact ((HSPEC.out k a2 hun2).2 h).1)
          have HLEN : Hid (r.1 = true → r.2.1.length = 8) := Lib.hid (fun h => by rw [hr] at h ⊢; rw [((HSPEC.out k a2 hun2).1 h).len, HPL.out])
          rw [hk] at y1 hdf
          rw [← hr] at HT2 HCALL
          clear hT2 hfree hk hkn hkt hr hun2
          gi_wp2_with fail
          refine region_round 15 17 (fun w' => w' = W6.drew) (by kernel_rfl) rfl (by kernel_rfl) ?_
          refine anyC_reads (by kernel_rfl) [0, 1, 2, 3, 4, 5, 6, 7, 8, 9, 10, 11, 12, 13, 14] ?opn ?ohn 2 _ _ _ (by kernel_rfl) ?okn
          case ohn => (simp only [List.filterMap_cons, List.filterMap_nil, List.getElem?_toArray, List.getElem?_cons_zero, List.getElem?_cons_succ]; try rfl)
          repeat (
            refine readC_step (v := ?_) rfl (fun w' hw' => ?_) ?_
            rotate_left
            focus (subst hw'; go_simp; try with_reducible rfl)
            go_simp)
          refine readC_nil ?_
          refine anyC_one (i := 15) (by kernel_rfl) rfl rfl (.inr rfl) ?_
          go_simp
          refine HCALL.out.mono ?_
          clear HCALL
          rintro e v7 ⟨hh7, rfl, hp7, hq7⟩
          refine anyC_one (i := 16) (by kernel_rfl) rfl rfl (.inl rfl) ?_
          go_simp
          refine anyC_end (by kernel_rfl) (.inl (by kernel_rfl)) ?_
          have hall7 : Held [g, q] W v7 := HHA.out.trans (Held.refl [g, q] W6).drew1 |>.trans hh7
          have hk47 : Blk v7 (S + 1 + 1 + 1 + 1) 4 #[.bool false] := HK46.out.drew.held hh7 (by simp; omega)
          have hp07 : Blk v7 S 111 #[.pointer (some ⟨g, 0, none⟩)] := HP06.out.drew.held hh7 (by simp; omega)
          have hp27 : Blk v7 (S + 1 + 1) 3 #[.int .i64 i] := HP26.out.drew.held hh7 (by simp; omega)
          have c0 := hp07.cell 0
          have c1 := hp27.cell 0
          have c2 := hk47.cell 0
          have c3 := hk47.frozen 0
          have c4 := Blk.frozen hp7 j
          have HP7 := Lib.hid hp7
          have HQ7 := Lib.hid hq7
          have HK47 := Lib.hid hk47
          have HALL7 := Lib.hid hall7
          obtain ⟨ok, p7, a7⟩ := r
          simp only at HT2 HP7 HQ7 HSAME ⊢
          clear hh7 hp7 hq7 hall7 hk47 hp07 hp27 y0 y1 y2 y3 y4 y5 yf yg
          cases ok with
          | false =>
            have hs := HSAME.out rfl
            subst hs
            have HT3 := Lib.hid (HT2.out.trans (if_neg (by simp)))
            gi_wp2_with fail
            exact ⟨KeepsFrom.held (HALL7.out.mono (fun k hk _ => by simp at hk ⊢; omega)) hcells.out, KpE.held HALL7.out (by simp; omega) (by simp; omega), HH.out.then HALL7.out (fun k hk _ => by simp at hk ⊢; omega), by rw [HT3.out], HP7.out, by rw [HT3.out]; exact HQ7.out, HK47.out⟩
          | true =>
            have HT3 := Lib.hid (HT2.out.trans (if_pos rfl))
            have hp7l : p7.length = 8 := HLEN.out rfl
            have c5 := HP7.out.cell (j := j) (by omega)
            obtain ⟨z, hz⟩ : ∃ z, z = la p7 j := ⟨_, rfl⟩
            rw [← hz] at c5
            clear hz hp7l
            gi_wp2_with fail
            refine region_round 5 6 (fun w' => w' = v7.drew) (by kernel_rfl) rfl (by kernel_rfl) ?_
            refine anyC_reads (by kernel_rfl) [0, 1, 2, 3, 4] ?opp ?ohp 1 _ _ _ (by kernel_rfl) ?okp
            case ohp => (simp only [List.filterMap_cons, List.filterMap_nil, List.getElem?_toArray, List.getElem?_cons_zero, List.getElem?_cons_succ]; try rfl)
            repeat (
              refine readC_step (v := ?_) rfl (fun w' hw' => ?_) ?_
              rotate_left
              focus (subst hw'; go_simp; try with_reducible rfl)
              go_simp)
            refine readC_nil ?_
            refine anyC_one (i := 5) (by kernel_rfl) rfl rfl (.inr rfl) ?_
            go_simp
            refine anyC_end (by kernel_rfl) (.inl (by kernel_rfl)) ?_
            gi_wp2_with fail
            have hs8 : Held [g, q, S + 1 + 1 + 1 + 1] v7 ((v7.setCell ⟨g, j, none⟩ (.int .i64 i)).setCell ⟨S + 1 + 1 + 1 + 1, 0, none⟩ (.bool true)).drew := (((Held.refl _ v7).setCell (p := ⟨g, j, none⟩) (by simp) _).setCell (p := ⟨S + 1 + 1 + 1 + 1, 0, none⟩) (by simp) _).drew1
            have hall : Held [g, q, S + 1 + 1 + 1 + 1] W ((v7.setCell ⟨g, j, none⟩ (.int .i64 i)).setCell ⟨S + 1 + 1 + 1 + 1, 0, none⟩ (.bool true)).drew := (HALL7.out.mono (fun k hk _ => by simp at hk ⊢; omega)).trans hs8
            refine ⟨KeepsFrom.held hall hcells.out, HH.out.then hall (fun k hk _ => by simp at hk ⊢; omega), rfl, by rw [HT3.out], ?_, ?_, ?_⟩
            · rw [HT3.out]
              exact Blk.drew (Blk.far (PB.put HP7.out j i) (p := ⟨S + 1 + 1 + 1 + 1, 0, none⟩) (show g ≠ S + 1 + 1 + 1 + 1 by omega) _)
            · rw [HT3.out]
              exact ((HQ7.out.far (p := ⟨g, j, none⟩) (show q ≠ g from fun e => hgq e.symm) _).far (p := ⟨S + 1 + 1 + 1 + 1, 0, none⟩) (show q ≠ S + 1 + 1 + 1 + 1 by omega) _).drew
            · exact ((HK47.out.far (p := ⟨g, j, none⟩) (show S + 1 + 1 + 1 + 1 ≠ g by omega) _).put 0 (.bool true)).drew
    case done =>
      intro D W hD hh hi hdef
      obtain ⟨hf0, hpW, hqW, hk4W⟩ := hi
      have HMK := Lib.hid (hmarks D W hD hh hdef)
      have f2 := hk4W.frozen 0
      have c2 := hk4W.cell 0
      have HM2 := Lib.hid (HMK.out.setCell (p := ⟨S + 1 + 1 + 1 + 1, 0, none⟩) (.bool false) (fun o ho he => by rw [show W.heap[S + 1 + 1 + 1 + 1]? = _ from hk4W] at ho; cases ho; cases he))
      have HPV := Lib.hid (Blk.far hpW (p := ⟨S + 1 + 1 + 1 + 1, 0, none⟩) (show g ≠ S + 1 + 1 + 1 + 1 by omega) (.bool false))
      have HQV := Lib.hid (hqW.far (p := ⟨S + 1 + 1 + 1 + 1, 0, none⟩) (show q ≠ S + 1 + 1 + 1 + 1 by omega) (.bool false))
      have HP2 := Lib.hid (hk4W.put 0 (.bool false))
      have HHH := Lib.hid (hh.setCell (p := ⟨S + 1 + 1 + 1 + 1, 0, none⟩) (by simp) (.bool false))
      have HF0 := Lib.hid hf0
      have HSAME : Hid ((tryJ (tryF near f) i (bitsL X) p a).2.1 = p) := Lib.hid ((tryJ_spec HW.out HPL.out HSPEC.out (a0 := a) (bitsL X) a (fun j' hj' => HX.out j' hj') (fun _ h => h) (by have := HUN.out; push_cast at this; omega)).2 hf0).1
      clear hh hdef hf0 hpW hqW hk4W HMK htw hk5b
      gi_wp2_with fail
      refine bodyPostM_ret HM2.out fun w' hw' => ?_
      have hv := (HP2.out.shut hw').cell 0
      refine ⟨.bool false, by simp [results, Tryd.results66, go_sem, hv], hfin _ _ HHH.out hw', ?_⟩
      rw [HTF.out]
      exact ⟨by rw [HF0.out], by rw [HSAME.out]; exact Blk.shut HPV.out hw', HQV.out.shut hw'⟩
    case stop =>
      rintro D cd pre W hD hpre hh ⟨rfl, hf1, hpW, hqW, hk4W⟩ hdef
      have HMK := Lib.hid (hmarks D W hD hh hdef)
      have HPV := Lib.hid hpW
      have HQV := Lib.hid hqW
      have HP2 := Lib.hid hk4W
      have HHH := Lib.hid hh
      have hall : tryF near (f + 1) i p a = tryJ (tryF near f) i pre p a := by
        rw [HTF.out]
        obtain ⟨z, hz⟩ := hpre
        rw [← hz, tryJ_hit _ _ _ _ _ _ hf1]
      have HALL := Lib.hid hall
      have HF1 := Lib.hid hf1
      clear hh hdef hf1 hpW hqW hk4W hpre htw hk5b hall
      gi_wp2_with fail
      refine bodyPostM_ret HMK.out fun w' hw' => ?_
      have hv := (HP2.out.shut hw').cell 0
      refine ⟨.bool true, by simp [results, Tryd.results66, go_sem, hv], hfin _ _ HHH.out hw', ?_⟩
      rw [HALL.out]
      exact ⟨by rw [HF1.out], Blk.shut HPV.out hw', HQV.out.shut hw'⟩
end Go.Proofs.YtokmialpclcodaaDoor
