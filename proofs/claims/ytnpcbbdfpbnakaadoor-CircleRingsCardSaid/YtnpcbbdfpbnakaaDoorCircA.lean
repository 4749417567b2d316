/- The first ring of all nodes: the program's search, which keeps what led to nothing. Conditions: the words read as a list; the table. -/
import Derived.Test.YtnpcbbdfpbnakaaDoorCircP
namespace Go.Proofs.YtnpcbbdfpbnakaaDoor
open Go.RowKit Go.Shelf
attribute [local go_sem] Oper.semAt_some
attribute [local go_sem ↓] w_and w_or w_xor w_andNot w_and1 w_and255 w_xor1 w_or0 w_shl w_shl1 w_shr w_sub w_add w_sub1 w_add1
attribute [local go_sem] w_eq0 w_ne0 w_eq1 w_eq w_ne

/-- A range over a word's bits whose rounds write the boxes ex and may leave. -/
theorem wpIn_bitsG {P : Program} {p q : Nat} {g : Operand} {assign body : Code} {Q : Exit → Act → World → Prop} {t : Array Value} {ds : List Deferred} {w : World} (n : Nat) (gf : FuncId) (bx : Nat) (ty : TypeId) (x0 : Value) (xs : List Nat) (ex : List Nat)
    (hg : ({ tmps := t, defers := ds } : Act).eval g = .func (.func gf) #[] #[.pointer (some ⟨bx, 0, none⟩)]) (eg : ∀ args w, (callFunc gf args).run P w = .ok (.enter gf args) w)
    (hseq : SeqE (n - 1) P gf bx ty x0 xs) (hbox : Boxed w bx ty x0) (htab : TabOk w) (hex : bx ∈ ex)
    (I : List Nat → World → Prop) (Ix : Code → List Nat → World → Prop) (hI : OwnFrom w.heap.size I) (hIx : ∀ c, OwnFrom w.heap.size (Ix c)) (hst : ∀ s A v, I s A → I s (A.setCell ⟨bx, 0, none⟩ v)) (h0 : I [] w)
    (hassign : ∀ (l : Nat) (x : Nat) (W : World) (K : Act → World → Prop), K { tmps := (t.setIfInBounds p (.int .i64 (x : Nat))).setIfInBounds q (.int .i64 (x : Nat)), defers := [] } W →
      assign.wpIn (Fence.wide.inRound l) (n - 1 - 1) P (Exit.then K (fun _ _ _ => False)) { tmps := t.setIfInBounds p (.int .i64 (x : Nat)), defers := [] } W)
    (hbody : ∀ (l : Nat) (pre : List Nat) (x : Nat) (W : World), Held ex w W → I pre W → pre ++ [x] <+: xs → body.wpIn (Fence.wide.inRound l) (n - 1 - 1) P (ownPostG w.heap.size (KpE bx ty) (fun s W => Held ex w W ∧ I s W) (fun c s W => Held ex w W ∧ Ix c s W) (pre ++ [x]) W)
      { tmps := (t.setIfInBounds p (.int .i64 (x : Nat))).setIfInBounds q (.int .i64 (x : Nat)), defers := [] } W)
    (hdone : ∀ (D : Nat) (W : World), w.heap.size ≤ D → Held ex w W → I xs W → W.heap[D]? = some (.deferred (some [])) → Q .normal { tmps := t, defers := { target := .collected D, args := #[] } :: ds } W)
    (hstop : ∀ (D : Nat) (c : Code) (pre : List Nat) (W : World), w.heap.size ≤ D → pre <+: xs → Held ex w W → Ix c pre W → W.heap[D]? = some (.deferred (some [])) → c.wpIn Fence.wide n P Q { tmps := t, defers := { target := .collected D, args := #[] } :: ds } W) :
    (Code.rangeFunc g #[p] assign body).wpIn Fence.wide n P Q { tmps := t, defers := ds } w := by
  refine wpIn_each n gf bx ty x0 xs hg eg hseq rfl hbox.lt hbox htab (fun s W => Held ex w W ∧ I s W) (fun c s W => Held ex w W ∧ Ix c s W) ?_ ?_ ?_ ⟨Held.refl _ _, h0⟩
    (fun x => { tmps := (t.setIfInBounds p (.int .i64 (x : Nat))).setIfInBounds q (.int .i64 (x : Nat)), defers := [] }) ?_ ?_ ?_ ?_
  · exact OwnFrom.and Held.own hI
  · exact fun c => OwnFrom.and Held.own (hIx c)
  · exact fun s A v h => ⟨h.1.setCell (p := ⟨bx, 0, none⟩) hex v, hst s A v h.2⟩
  · intro l x W K hK
    have e : (#[p].zip #[Value.int .i64 (x : Nat)]).foldl (fun t (p, v) => t.setIfInBounds p v) t = t.setIfInBounds p (.int .i64 (x : Nat)) := by simp
    have := hassign l x W K hK
    rw [← e] at this
    exact this
  · exact fun l pre x W h hp => hbody l pre x W h.1 h.2 hp
  · exact fun D W hD h hk => hdone D W hD h.1 h.2 hk
  · exact fun D c pre W hD hp h hk => hstop D c pre W hD hp h.1 h.2 hk

/-- What the map keeps: where a count is above 0 there is no ring. -/
def LostOk (t : List (BitVec 32)) (L : List ((BitVec 32 × BitVec 32) × Value)) : Prop := ∀ a x v, getK L (a, x) = some v → ∃ n : Int, v = .int .i64 n ∧ (0 < n → circ t a.toNat x = none)
theorem map_shut {κ : Type} [DecidableEq κ] {B r : Nat} {kv : κ → Value} {L : List (κ × Value)} {X Y : World} (h : MapB X r kv L) (hs : Shut B X Y) : MapB Y r kv L := by
  obtain ⟨es, ck, hb, hr⟩ := h
  exact ⟨es, ck, hs.2 r _ hb (by intro he; cases he), hr⟩
theorem and1_bit (y : BitVec 32) : (wAnd y w1 == w1) = bitB y 0 := by
  have hb0 : ∀ j, (wAnd y w1).getLsbD j = (y.getLsbD j && decide (j = 0)) := fun j => by rw [b_and, b_1]
  rw [Bool.eq_iff_iff, beq_iff_eq]
  constructor
  · intro h
    have := hb0 0
    rw [h, b_1] at this
    have h2 : bitB y 0 = y.getLsbD 0 := bitB_nat y 0
    rw [h2]
    simpa using this.symm
  · intro h
    have h2 : y.getLsbD 0 = true := by rw [← bitB_nat]; exact h
    refine w_ext fun j hj => ?_
    rw [hb0, b_1]
    by_cases hj0 : j = 0
    · subst hj0; simp [h2]
    · simp [hj0]

theorem cirF_len (t : List (BitVec 32)) : ∀ (f a : Nat) (x : BitVec 32) (u : List Nat), cirF t f a x = some u → 0 < u.length ∧ u.length ≤ f
  | 0, _, _, _, h => by cases h
  | f + 1, a, x, u, h => by
    rw [cirF] at h
    split at h
    · split at h
      · cases h; simp
      · cases h
    · obtain ⟨i, _, hi⟩ := findSome_from h
      cases hv : cirF t f i (wBut x (wShl w1 i)) with
      | none => rw [hv] at hi; cases hi
      | some v =>
        rw [hv] at hi
        cases hi
        have := cirF_len t f i _ v hv
        simp
        omega
theorem circ_len {t : List (BitVec 32)} {a : Nat} {x : BitVec 32} {u : List Nat} (h : circ t a x = some u) : 0 < u.length ∧ u.length ≤ 11 := cirF_len t 11 a x u h
theorem lost_put {t : List (BitVec 32)} {L : List ((BitVec 32 × BitVec 32) × Value)} (h : LostOk t L) {a : BitVec 32} {x : BitVec 32} (n : Int) (hc : circ t a.toNat x = none) : LostOk t (putK L (a, x) (.int .i64 n)) := fun a' x' v hv => by
  by_cases he : (a', x') = (a, x)
  · injection he with h1 h2
    subst h1 h2
    rw [getK_put_same] at hv
    cases hv
    exact ⟨n, rfl, fun _ => hc⟩
  · rw [getK_put_other _ _ he] at hv
    exact h a' x' v hv
set_option maxRecDepth 100000 in
set_option maxHeartbeats 4000000 in
theorem circle_on (N : Nat) (hN : N ≤ 10) (t : List (BitVec 32)) (ht : t.length = N) (A : Option Addr) (c r Q : Nat) (hr0 : 0 < r) (hrQ : r < Q) : ∀ (f a : Nat) (x : BitVec 32) (L : List ((BitVec 32 × BitVec 32) × Value)) (w : World), pop x < f → pop x ≤ 10 → a < N → (∀ j, x.getLsbD j = true → j < N) → Els w r 1 wcell A t →
    Blk w Q 97 #[.slice A N c, .map (some r)] → MapB w r twoV L → LostOk t L → TabOk w →
    Calls Tryd.prog 68 #[.pointer (some ⟨Q, 0, none⟩), .int .i64 a, .int .u32 (wN x)] w fun e w' => ∃ (R : Option Addr) (k cr : Nat) (L' : List ((BitVec 32 × BitVec 32) × Value)), e = .returned (.slice R k cr) ∧ Held [r] w w' ∧ MapB w' r twoV L' ∧ LostOk t L' ∧ RowRes (circ t a x) R k cr w' := by
  have HL := Lib.hid ht
  clear ht
  intro f
  induction f with
  | zero => intro a x L w hp; omega
  | succ f ih =>
    intro a x L w hpf hp10 haN hxN hrt hq hm hlost htab
    have HIH := Lib.hid ih
    have HXN := Lib.hid hxN
    have HT := Lib.hid htab
    have HM := Lib.hid hm
    have HLO := Lib.hid hlost
    have hQl := hq.lt
    have hrl := hm.lt
    obtain ⟨S, hS⟩ : ∃ S, S = w.heap.size := ⟨_, rfl⟩
    obtain ⟨W1, hW1⟩ : ∃ W1, W1 = ((((w.alloc (.cells #[.pointer (some ⟨Q, 0, none⟩)] 94)).alloc (.cells #[.int .i64 a] 3)).alloc (.cells #[.int .u32 (wN x)] 46)).alloc (.cells #[.slice none 0 0] 32)) := ⟨_, rfl⟩
    have hB1 : Below S w W1 := by rw [hW1, hS]; exact ((((Below.refl _ w).alloc (Nat.le_refl _) _).alloc (by simp) _).alloc (by first | (simp; done) | (simp; omega)) _).alloc (by first | (simp; done) | (simp; omega)) _
    have hk0 : Blk W1 S 94 #[.pointer (some ⟨Q, 0, none⟩)] := by rw [hW1, hS]; exact (((Blk.new w _ _).alloc _).alloc _).alloc _
    have hk1 : Blk W1 (S + 1) 3 #[.int .i64 a] := by rw [hW1, hS]; exact ((Blk.new_at (by simp)).alloc _).alloc _
    have hk2 : Blk W1 (S + 1 + 1) 46 #[.int .u32 (wN x)] := by rw [hW1, hS]; exact (Blk.new_at (by simp)).alloc _
    have hk3 : Blk W1 (S + 1 + 1 + 1) 32 #[.slice none 0 0] := by rw [hW1, hS]; exact Blk.new_at (by simp)
    have hz1 : W1.heap.size = S + 1 + 1 + 1 + 1 := by rw [hW1, hS]; simp
    rw [← hS] at hQl hrl
    have hq1 : Blk W1 Q 97 #[.slice A N c, .map (some r)] := hq.below hB1 hQl
    have hm1 : MapB W1 r twoV L := hm.below hB1 hrl
    have hrt1 : Els W1 r 1 wcell A t := hrt.below (hB1.mono (by omega))
    have hal : a < t.length := by rw [HL.out]; exact haN
    obtain ⟨b3, off3, hAe, _, e6⟩ := hrt1.at1 hal
    rw [← lw_at t _ hal] at e6
    subst hAe
    have e0 := hk0.cell 0
    have e1 := hk1.cell 0
    have e2 := hk2.cell 0
    have e3 := hq1.cell 0
    have e4 := hq1.cell 1
    have f3 := hk3.frozen 0
    have c3 := hk3.cell 0
    have hai : (a : Int) < (N : Int) := by omega
    have HS := Lib.hid hS
    have HW1 := Lib.hid hW1
    have HB1 := Lib.hid hB1
    have HK0 := Lib.hid hk0
    have HK1 := Lib.hid hk1
    have HK2 := Lib.hid hk2
    have HK3 := Lib.hid hk3
    have HQ1 := Lib.hid hq1
    have HM1 := Lib.hid hm1
    have HRT := Lib.hid hrt1
    clear ih hxN htab hm hlost hq hrt hS hW1 hB1 hk0 hk1 hk2 hk3 hq1 hm1 hrt1 hal
    refine (callsIn_wide (n := 9)).1 ?_
    refine callsIn_of_wp_marks Tryd.func68 rfl trivial ?_ rfl
    simp only [Tryd.ntmps68, List.size_toArray, List.length_cons, List.length_nil, Nat.reduceAdd, Nat.reduceSub, Array.replicate_succ, Array.replicate_zero, List.push_toArray, List.append_toArray, List.nil_append, List.cons_append]
    by_cases hx0 : x = w0
    · have hd : (x == w0) = true := by simp [hx0]
      have HX0 := Lib.hid hx0
      have hbit := and1_bit (lw t a)
      have hce : circ t a x = if bitB (lw t a) 0 = true then some [a] else none := by rw [hx0, circ_end]
      obtain ⟨be, hbe⟩ : ∃ be, be = bitB (lw t a) 0 := ⟨_, rfl⟩
      rw [← hbe] at hbit hce
      have HCE := Lib.hid hce
      clear hx0 hce hbe
      gi_wp2_with fail
      rw [← HW1.out, ← HS.out]
      refine region_wide 99 9 (fun w' => w' = W1.drew) (by kernel_rfl) rfl ?_
      refine anyC_reads (by kernel_rfl) [0, 1, 2, 3, 4, 5, 6, 7, 8] ?opa ?oha 0 _ _ _ (by kernel_rfl) ?oka
      case oha => (simp only [List.filterMap_cons, List.filterMap_nil, List.getElem?_toArray, List.getElem?_cons_zero, List.getElem?_cons_succ]; try rfl)
      repeat (
        refine readC_step (v := ?_) rfl (fun w' hw' => ?_) ?_
        rotate_left
        focus (subst hw'; go_simp; try with_reducible rfl)
        go_simp)
      refine readC_nil ?_
      refine anyC_end (by kernel_rfl) (.inr rfl) ?_
      cases be with
      | true =>
        gi_wp2_with fail
        obtain ⟨V, hV⟩ : ∃ V, V = ((W1.setCell ⟨S + 1 + 1 + 1, 0, none⟩ (.slice (some ⟨S + 1 + 1 + 1 + 1, 0, none⟩) 1 1)).alloc (.cells #[.int .i64 a] 3)).drew := ⟨_, rfl⟩
        rw [← hV]
        have hzs : (W1.setCell ⟨S + 1 + 1 + 1, 0, none⟩ (.slice (some ⟨S + 1 + 1 + 1 + 1, 0, none⟩) 1 1)).heap.size = S + 1 + 1 + 1 + 1 := by simp [World.setCell, hz1]
        have hvb : Below S w V := by rw [hV]; exact ((HB1.out.setCell (p := ⟨S + 1 + 1 + 1, 0, none⟩) (show S ≤ S + 1 + 1 + 1 by omega) _).alloc (by rw [hzs]; omega) _).drew
        have hvr : Blk V (S + 1 + 1 + 1) 32 #[.slice (some ⟨S + 1 + 1 + 1 + 1, 0, none⟩) 1 1] := by rw [hV]; exact ((HK3.out.put 0 _).alloc _).drew
        have hvl : Blk V (S + 1 + 1 + 1 + 1) 3 #[.int .i64 a] := by rw [hV]; exact (Blk.new_at hzs).drew
        have hvm : MapB V r twoV L := HM.out.below hvb (by omega)
        refine bodyPostM_ret (Marks.nil S _) fun w' hw' => ?_
        have hv := (hvr.shut hw').cell 0
        have hbe := hvb.trans hw'.1
        refine ⟨.slice (some ⟨S + 1 + 1 + 1 + 1, 0, none⟩) 1 1, by simp [results, Tryd.results68, go_sem, hv], ?_⟩
        refine ⟨some ⟨S + 1 + 1 + 1 + 1, 0, none⟩, 1, 1, ?_⟩
        refine ⟨rfl, ⟨hbe.os, hbe.tape, hbe.output, hbe.size, fun k hk hx => hbe.block k (by rw [HS.out]; exact hk)⟩, L, HM.out.below hbe (by omega), HLO.out, ?_⟩
        rw [HCE.out]
        exact ⟨rfl, els_of_blk (hvl.shut hw') 1 icell (fun _ => rfl) (intsOf [a]) rfl⟩
      | false =>
        gi_wp2_with fail
        have hvr : Blk (W1.setCell ⟨S + 1 + 1 + 1, 0, none⟩ (.slice none 0 0)).drew (S + 1 + 1 + 1) 32 #[.slice none 0 0] := (HK3.out.put 0 _).drew
        refine bodyPostM_ret (Marks.nil S _) fun w' hw' => ?_
        have hv := (hvr.shut hw').cell 0
        have hbe := (HB1.out.setCell (p := ⟨S + 1 + 1 + 1, 0, none⟩) (show S ≤ S + 1 + 1 + 1 by omega) (.slice none 0 0)).drew.trans hw'.1
        refine ⟨.slice none 0 0, by simp [results, Tryd.results68, go_sem, hv], none, 0, 0, L, rfl, ⟨hbe.os, hbe.tape, hbe.output, hbe.size, fun k hk hx => hbe.block k (by rw [HS.out]; exact hk)⟩, HM.out.below hbe (by omega), HLO.out, ?_⟩
        rw [HCE.out]
        exact ⟨rfl, rfl, rfl⟩
    · have hd : (x == w0) = false := by simp [hx0]
      have HX0 := Lib.hid hx0
      clear hx0
      have hnw : wN (nw a) = (a : Int) := wN_nw (by omega)
      have hnt : (nw a).toNat = a := by unfold wN at hnw; omega
      have hkey : twoV (nw a, x) = .agg #[.int .u32 (a : Int), .int .u32 (wN x)] := by show Value.agg #[.int .u32 (wN (nw a)), .int .u32 (wN x)] = _; rw [hnw]
      obtain ⟨n0, hn0, hpos⟩ : ∃ n0 : Int, (getK L (nw a, x)).getD (.int .i64 0) = .int .i64 n0 ∧ (0 < n0 → circ t a x = none) := by
        cases hg : getK L (nw a, x) with
        | none => exact ⟨0, rfl, fun h => by omega⟩
        | some v =>
          obtain ⟨n, rfl, h⟩ := HLO.out (nw a) x v hg
          rw [hnt] at h
          exact ⟨n, rfl, h⟩
      gi_wp2_with fail
      rw [← HW1.out, ← HS.out]
      obtain ⟨V1, hV1⟩ : ∃ V1, V1 = W1.alloc (.cells #[.int .u32 (a : Int), .int .u32 (wN x)] 119) := ⟨_, rfl⟩
      rw [← hV1]
      have hzv : V1.heap.size = S + 1 + 1 + 1 + 1 + 1 := by rw [hV1, size_alloc', hz1]
      have hvb : Below S w V1 := by rw [hV1]; exact HB1.out.alloc (by omega) _
      have hv0 : Blk V1 S 94 #[.pointer (some ⟨Q, 0, none⟩)] := by rw [hV1]; exact HK0.out.alloc _
      have hv1 : Blk V1 (S + 1) 3 #[.int .i64 a] := by rw [hV1]; exact HK1.out.alloc _
      have hv2 : Blk V1 (S + 1 + 1) 46 #[.int .u32 (wN x)] := by rw [hV1]; exact HK2.out.alloc _
      have hv3 : Blk V1 (S + 1 + 1 + 1) 32 #[.slice none 0 0] := by rw [hV1]; exact HK3.out.alloc _
      have hv4 : Blk V1 (S + 1 + 1 + 1 + 1) 119 #[.int .u32 (a : Int), .int .u32 (wN x)] := by rw [hV1]; exact Blk.new_at hz1
      have hvq : Blk V1 Q 97 #[.slice (some ⟨b3, off3, none⟩) N c, .map (some r)] := by rw [hV1]; exact HQ1.out.alloc _
      have hvm : MapB V1 r twoV L := by rw [hV1]; exact HM1.out.alloc _
      have hvr : Els V1 r 1 wcell (some ⟨b3, off3, none⟩) t := by rw [hV1]; exact HRT.out.below ((Below.refl r W1).alloc (by omega) _)
      have e6' : V1.cell? ⟨b3, off3 + a, none⟩ = some (.int .u32 (wN (lw t a))) := by
        obtain ⟨b4, off4, h4, _, h5⟩ := hvr.at1 (show a < t.length by rw [HL.out]; exact haN)
        obtain ⟨rfl, rfl⟩ : b3 = b4 ∧ off3 = off4 := by injection h4 with h; injection h with h1 h2 h3; exact ⟨h1, h2⟩
        rw [lw_at]
        exact h5
      have hlook := run_look (P := Tryd.prog) keyL_two Tryd.underlying95 (z := .int .i64 0) (fun u => by kernel_rfl) hvm.drew (nw a, x) false
      rw [hkey, hn0] at hlook
      simp only [Bool.false_eq_true, if_false] at hlook
      clear e0 e1 e2 e3 e4 e6 f3 c3 HK0 HK1 HK2 HK3 HQ1 HM1 HRT HB1 HW1 hz1 hV1
      have e0 := hv0.cell 0
      have e1 := hv1.cell 0
      have e2 := hv2.cell 0
      have e3 := hvq.cell 0
      have e4 := hvq.cell 1
      have e7 := hv4.cell 0
      have e8 := hv4.cell 1
      have f3 := hv3.frozen 0
      have c3 := hv3.cell 0
      have HVB := Lib.hid hvb
      have HV0 := Lib.hid hv0
      have HV1 := Lib.hid hv1
      have HV2 := Lib.hid hv2
      have HV3 := Lib.hid hv3
      have HV4 := Lib.hid hv4
      have HVQ := Lib.hid hvq
      have HVM := Lib.hid hvm
      have HVR := Lib.hid hvr
      have HKEY := Lib.hid hkey
      have HNT := Lib.hid hnt
      have HN0 := Lib.hid hn0
      have HPOS := Lib.hid hpos
      clear hvb hv0 hv1 hv2 hv3 hv4 hvq hvm hvr hkey hnt hn0 hpos hnw
      refine region_wide 99 7 (fun w' => w' = V1.drew) (by kernel_rfl) rfl ?_
      refine anyC_reads (by kernel_rfl) [0, 1, 2, 3, 4, 5, 6] ?opb ?ohb 0 _ _ _ (by kernel_rfl) ?okb
      case ohb => (simp only [List.filterMap_cons, List.filterMap_nil, List.getElem?_toArray, List.getElem?_cons_zero, List.getElem?_cons_succ]; try rfl)
      repeat (
        refine readC_step (v := ?_) rfl (fun w' hw' => ?_) ?_
        rotate_left
        focus (subst hw'; go_simp; try with_reducible rfl)
        go_simp)
      refine readC_nil ?_
      refine anyC_end (by kernel_rfl) (.inr rfl) ?_
      by_cases hn0p : 0 < n0
      · have hcn := HPOS.out hn0p
        have HCN := Lib.hid hcn
        clear hcn
        gi_wp2_with fail
        have hvr2 : Blk (V1.setCell ⟨S + 1 + 1 + 1, 0, none⟩ (.slice none 0 0)).drew (S + 1 + 1 + 1) 32 #[.slice none 0 0] := (HV3.out.put 0 _).drew
        refine bodyPostM_ret (Marks.nil S _) fun w' hw' => ?_
        have hv := (hvr2.shut hw').cell 0
        have hbe := (HVB.out.setCell (p := ⟨S + 1 + 1 + 1, 0, none⟩) (show S ≤ S + 1 + 1 + 1 by omega) (.slice none 0 0)).drew.trans hw'.1
        refine ⟨.slice none 0 0, by simp [results, Tryd.results68, go_sem, hv], none, 0, 0, L, rfl, ⟨hbe.os, hbe.tape, hbe.output, hbe.size, fun k hk hx => hbe.block k (by rw [HS.out]; exact hk)⟩, HM.out.below hbe (by omega), HLO.out, ?_⟩
        rw [HCN.out]
        exact ⟨rfl, rfl, rfl⟩
      · clear hlook
        gi_wp2_with fail
        refine region_wide 9 10 (fun w' => w' = V1.drew.drew) (by kernel_rfl) rfl ?_
        refine anyC_reads (by kernel_rfl) [0, 1, 2, 3, 4, 5, 6, 7, 8] ?opc ?ohc 1 _ _ _ (by kernel_rfl) ?okc
        case ohc => (simp only [List.filterMap_cons, List.filterMap_nil, List.getElem?_toArray, List.getElem?_cons_zero, List.getElem?_cons_succ]; try rfl)
        repeat (
          refine readC_step (v := ?_) rfl (fun w' hw' => ?_) ?_
          rotate_left
          focus (subst hw'; go_simp; try with_reducible rfl)
          go_simp)
        refine readC_nil ?_
        obtain ⟨X, hX⟩ : ∃ X, X = wAnd (lw t a) x := ⟨_, rfl⟩
        rw [← hX]
        have HX := Lib.hid hX
        clear hX
        refine anyC_one (i := 9) (by kernel_rfl) rfl rfl (.inr rfl) ?_
        go_simp
        refine (graph_Each X _).mono ?_
        rintro e W3 ⟨rfl, rfl⟩
        go_simp
        refine anyC_end (by kernel_rfl) (.inl (by kernel_rfl)) ?_
        gi_wp2_with fail
        obtain ⟨W5, hW5⟩ : ∃ W5, W5 = (V1.alloc (.cells #[.int .u32 (wN X)] 46)).drew.drew := ⟨_, rfl⟩
        rw [← hW5]
        have hk5 : Blk W5 (S + 1 + 1 + 1 + 1 + 1) 46 #[.int .u32 (wN X)] := by rw [hW5]; exact (Blk.new_at hzv).drew.drew
        have hz5 : W5.heap.size = S + 1 + 1 + 1 + 1 + 1 + 1 := by rw [hW5]; exact (size_alloc' V1 _).trans (congrArg (· + 1) hzv)
        have hb5 : Below S w W5 := by rw [hW5]; exact (HVB.out.alloc (by omega) _).drew.drew
        have q0 : Blk W5 S 94 #[.pointer (some ⟨Q, 0, none⟩)] := by rw [hW5]; exact (HV0.out.alloc _).drew.drew
        have q1 : Blk W5 (S + 1) 3 #[.int .i64 a] := by rw [hW5]; exact (HV1.out.alloc _).drew.drew
        have q2 : Blk W5 (S + 1 + 1) 46 #[.int .u32 (wN x)] := by rw [hW5]; exact (HV2.out.alloc _).drew.drew
        have q3 : Blk W5 (S + 1 + 1 + 1) 32 #[.slice none 0 0] := by rw [hW5]; exact (HV3.out.alloc _).drew.drew
        have q4 : Blk W5 (S + 1 + 1 + 1 + 1) 119 #[.int .u32 (a : Int), .int .u32 (wN x)] := by rw [hW5]; exact (HV4.out.alloc _).drew.drew
        have q5 : Blk W5 Q 97 #[.slice (some ⟨b3, off3, none⟩) N c, .map (some r)] := by rw [hW5]; exact (HVQ.out.alloc _).drew.drew
        have q6 : MapB W5 r twoV L := by rw [hW5]; exact (HVM.out.alloc _).drew.drew
        have q7 : Els W5 r 1 wcell (some ⟨b3, off3, none⟩) t := by rw [hW5]; exact HVR.out.below (((Below.refl r V1).alloc (by omega) _).drew.drew)
        have htw : TabOk W5 := HT.out.below hb5 (by omega)
        clear e0 e1 e2 e3 e4 e6' e7 e8 f3 c3 HV0 HV1 HV2 HV3 HV4 HVQ HVM HVR HVB hzv hW5
        have HB5 := Lib.hid hb5
        have HQ0 := Lib.hid q0
        have HQ1 := Lib.hid q1
        have HQ2 := Lib.hid q2
        have HQ3 := Lib.hid q3
        have HQ4 := Lib.hid q4
        have HQ5 := Lib.hid q5
        have HQ7 := Lib.hid q7
        have HK5 := Lib.hid hk5
        have hk5b : Boxed W5 (S + 1 + 1 + 1 + 1 + 1) 46 (.int .u32 (wN X)) := hk5
        clear hb5 q0 q1 q2 q3 q4 q5 q7 hk5
        have HSW : Hid (w.heap.size = S) := Lib.hid HS.out.symm
        have hmarks : ∀ (D : Nat) (W : World), W5.heap.size ≤ D → Held [r, S + 1 + 1 + 1, S + 1 + 1 + 1 + 1 + 1] W5 W → W.heap[D]? = some (.deferred (some [])) → Marks S [{ target := .collected D, args := #[] }] W := fun D W hD hh hdef =>
          (Marks.nil S W5).cons rfl hD (by omega) (fun k hk he => (hh.block k hk (fun hm => by
            simp only [List.mem_cons, List.not_mem_nil, or_false] at hm
            rcases hm with rfl | rfl | rfl
            · obtain ⟨es, ck, hb, _⟩ := q6
              rw [hb] at he
              cases he
            · have hcell := HQ3.out.isCells _ he
              cases hcell
            · have hcell := HK5.out.isCells _ he
              cases hcell)).trans he) hdef
        have hfin : ∀ (W W' : World), Held [r, S + 1 + 1 + 1, S + 1 + 1 + 1 + 1 + 1] W5 W → Shut S W W' → Held [r] w W' := fun W W' hh hw' =>
          ⟨hw'.1.os.trans (hh.os.trans HB5.out.os), hw'.1.tape.trans (hh.tape.trans HB5.out.tape), hw'.1.output.trans (hh.output.trans HB5.out.output), Nat.le_trans HB5.out.size (Nat.le_trans hh.size hw'.1.size), fun k hk hx => by
            have hkS : k < S := by rw [HS.out]; exact hk
            have hkn : k ∉ [r, S + 1 + 1 + 1, S + 1 + 1 + 1 + 1 + 1] := by simp at hx ⊢; omega
            exact (hw'.1.block k hkS).trans ((hh.block k (by omega) hkn).trans (HB5.out.block k hkS))⟩
        refine wpIn_bitsG (p := 44) (q := 8) 9 83 (S + 1 + 1 + 1 + 1 + 1) 46 (.int .u32 (wN X)) (bitsL X) [r, S + 1 + 1 + 1, S + 1 + 1 + 1 + 1 + 1] rfl (enters_of Tryd.func83 (by kernel_rfl) rfl)
          (Each1_seq _ _ _ (by omega)) hk5b htw (by simp)
          (fun pre W => pre.findSome? (fun i => (circ t i (wBut x (wShl w1 i))).map (a :: ·)) = none ∧ Blk W (S + 1 + 1 + 1) 32 #[.slice none 0 0] ∧ ∃ L1, MapB W r twoV L1 ∧ LostOk t L1)
          (fun cd pre W => cd = .ret ∧ ∃ (u : List Nat) (R : Option Addr) (cr : Nat), pre.findSome? (fun i => (circ t i (wBut x (wShl w1 i))).map (a :: ·)) = some u ∧ Blk W (S + 1 + 1 + 1) 32 #[.slice R u.length cr] ∧ Els W W.heap.size 1 icell R (intsOf u) ∧ ∃ L1, MapB W r twoV L1 ∧ LostOk t L1)
          (fun s X Y row h hg hrow => by obtain ⟨h1, h2, L1, h3, h4⟩ := h; exact ⟨h1, blk_kept h2 hg (fun r' e => (hrow r' e).2), L1, h3.grown hg (fun e => by have := (hrow r e.symm).1; omega), h4⟩)
          (fun cd s X Y row h hg hrow => by obtain ⟨h0, u, R, cr, h1, h2, h3, L1, h4, h5⟩ := h; exact ⟨h0, u, R, cr, h1, blk_kept h2 hg (fun r' e => (hrow r' e).2), els_kept (fun _ => rfl) (by omega) h3 hg (fun r' e => (hrow r' e).2), L1, h4.grown hg (fun e => by have := (hrow r e.symm).1; omega), h5⟩)
          (fun s X v h => ⟨h.1, h.2.1.far (show S + 1 + 1 + 1 ≠ S + 1 + 1 + 1 + 1 + 1 by omega) v, by obtain ⟨L1, h3, h4⟩ := h.2.2; exact ⟨L1, h3.setCell _ _, h4⟩⟩) ⟨rfl, HQ3.out, L, q6, HLO.out⟩ ?assign ?body ?done ?stop
        case assign =>
          intro l' j W K hK
          simp only [List.setIfInBounds_toArray, List.set_cons_succ, List.set_cons_zero] at hK ⊢
          gi_wp2_with fail
          exact hK
        case body =>
          intro l' pre j W hh hi hpre
          obtain ⟨hfs, hkW, L1, hmW, hlo⟩ := hi
          have hjX : j ∈ bitsL X := by obtain ⟨z, hz⟩ := hpre; rw [← hz]; simp
          have hjb := mem_bitsL.1 hjX
          rw [HX.out, b_and, Bool.and_eq_true] at hjb
          have hjx := hjb.2
          have hjN := HXN.out j hjx
          have hpb := pop_but hjx
          have hsW := hh.size
          have hp0 : Blk W S 94 #[.pointer (some ⟨Q, 0, none⟩)] := HQ0.out.held hh (by simp; omega)
          have hp1 : Blk W (S + 1) 3 #[.int .i64 a] := HQ1.out.held hh (by simp; omega)
          have hp2 : Blk W (S + 1 + 1) 46 #[.int .u32 (wN x)] := HQ2.out.held hh (by simp; omega)
          have hpq : Blk W Q 97 #[.slice (some ⟨b3, off3, none⟩) N c, .map (some r)] := HQ5.out.held hh (by simp; omega)
          have hprt : Els W r 1 wcell (some ⟨b3, off3, none⟩) t := HQ7.out.below (hh.to (B := r) (by omega) (by simp; omega))
          have hptb : TabOk W := htw.block hh.size (hh.block 0 (by omega) (by simp; omega))
          have HCALL := Lib.hid (HIH.out j (wBut x (wShl w1 j)) L1 W.drew (by omega) (by omega) hjN (fun i hi => by rw [b_but, Bool.and_eq_true] at hi; exact HXN.out i hi.1) (hprt.below (Below.refl r W).drew) hpq.drew hmW.drew hlo (hptb.block (Nat.le_refl _) rfl))
          have r0 := hp0.cell 0
          have r1 := hp1.cell 0
          have r2 := hp2.cell 0
          have HP1 := Lib.hid hp1
          have HH := Lib.hid hh
          have HFS := Lib.hid hfs
          have HKW := Lib.hid hkW
          simp only [List.setIfInBounds_toArray, List.set_cons_succ, List.set_cons_zero]
          clear hh hfs hkW hmW hlo hpre hjX hjb hjx hpb hp0 hp1 hp2 hpq hprt hptb
          gi_wp2_with fail
          refine region_round 6 8 (fun w' => w' = W.drew) (by kernel_rfl) rfl (by kernel_rfl) ?_
          refine anyC_reads (by kernel_rfl) [0, 1, 2, 3, 4, 5] ?opd ?ohd 2 _ _ _ (by kernel_rfl) ?okd
          case ohd => (simp only [List.filterMap_cons, List.filterMap_nil, List.getElem?_toArray, List.getElem?_cons_zero, List.getElem?_cons_succ]; try rfl)
          repeat (
            refine readC_step (v := ?_) rfl (fun w' hw' => ?_) ?_
            rotate_left
            focus (subst hw'; go_simp; try with_reducible rfl)
            go_simp)
          refine readC_nil ?_
          refine anyC_one (i := 6) (by kernel_rfl) rfl rfl (.inr rfl) ?_
          go_simp
          refine HCALL.out.mono ?_
          clear HCALL
          rintro e v7 ⟨R, k, cr, L7, rfl, hh7, hm7, hlo7, hres⟩
          have hhW7 : Held [r] W v7 := Held.then (ex := [r]) ((Held.refl [r] W).drew1) hh7 (fun i hi _ => hi)
          have hk7 : Blk v7 (S + 1 + 1 + 1) 32 #[.slice none 0 0] := HKW.out.held hhW7 (by simp; omega)
          have hp17 : Blk v7 (S + 1) 3 #[.int .i64 a] := HP1.out.held hhW7 (by simp; omega)
          have hkf : KeepsFrom W5.heap.size W v7 := ⟨hhW7.size, fun i o hi ho _ => (hhW7.block i (lt_of_block ho) (by simp; omega)).trans ho⟩
          have hkp : KpE (S + 1 + 1 + 1 + 1 + 1) 46 W v7 := KpE.held hhW7 (by simp; omega) (by simp; omega)
          have hhx : Held [r, S + 1 + 1 + 1, S + 1 + 1 + 1 + 1 + 1] W5 v7 := HH.out.then hhW7 (fun i hi _ => by simp at hi ⊢; omega)
          have hs7 := hhW7.size
          have HKF := Lib.hid hkf
          have HKP := Lib.hid hkp
          have HHX := Lib.hid hhx
          have HK7 := Lib.hid hk7
          have HM7 := Lib.hid hm7
          have HLO7 := Lib.hid hlo7
          cases hrow : circ t j (wBut x (wShl w1 j)) with
          | none =>
            rw [hrow] at hres
            obtain ⟨rfl, rfl, rfl⟩ := hres
            have HROW := Lib.hid hrow
            clear hrow hh7 hm7 hlo7 hhW7 hk7 hp17 hkf hkp hhx
            go_simp
            refine anyC_one (i := 7) (by kernel_rfl) rfl rfl (.inl (by kernel_rfl)) ?_
            go_simp
            refine anyC_end (by kernel_rfl) (.inl (by kernel_rfl)) ?_
            gi_wp2_with fail
            exact ⟨HKF.out, HKP.out, HHX.out, findSome_more HFS.out (by rw [HROW.out]; rfl), HK7.out, L7, HM7.out, HLO7.out⟩
          | some u =>
            rw [hrow] at hres
            obtain ⟨hku, hel⟩ := hres
            have hulen := circ_len hrow
            obtain ⟨rb, ro, hR, _, _⟩ := hel (by rw [intsOf, List.length_map]; exact hulen.1)
            subst hR
            obtain ⟨A4, cap4, w4, happ, hown4, hgrow4, hloc4⟩ := run_append_els (P := Tryd.prog) 32 32 v7.heap.size 1 3 (.int .i64 0) 8 Tryd.underlying32 (by kernel_rfl) rfl (by omega) icell (v7.alloc (.cells #[.int .i64 (a : Int)] 3)) (some ⟨v7.heap.size, 0, none⟩) 1 1 [(a : Int)] rfl
              (Own.lit (f := icell) (c := 1) v7 v7.heap.size 3 #[.int .i64 (a : Int)] (fun _ => rfl) [(a : Int)] 1 rfl rfl (by unfold maxLen; omega) (Nat.le_refl _)) (some ⟨rb, ro, none⟩) k cr (intsOf u) (by rw [intsOf, List.length_map]; exact hku.symm) v7.heap.size (hel.alloc (Nat.le_refl _) _) (one_flat (fun a u hu => by simp at hu; rw [hu]; rfl) _) (by unfold maxLen; omega) (by omega) (by rw [size_alloc']; exact Nat.le_succ _)
            have heq : [(a : Int)] ++ intsOf u = intsOf (a :: u) := by simp [intsOf]
            rw [heq] at hown4
            have hbw4 : Below v7.heap.size v7 w4 := ((Below.refl _ v7).alloc (Nat.le_refl _) _).grown hgrow4 (by rw [size_alloc']; exact Nat.le_succ _) (fun g hg => Nat.le_of_eq (by simpa [blkOf] using hg))
            have hk4 : Blk w4 (S + 1 + 1 + 1) 32 #[.slice none 0 0] := hk7.below hbw4 (hk7.lt)
            have hm4 : MapB w4 r twoV L7 := hm7.below hbw4 hm7.lt
            have c1 := hp17.cell 0
            have c4 := hk4.cell 0
            have f4 := hk4.frozen 0
            have hkk : 1 + k = (a :: u).length := by simp; omega
            have HKK := Lib.hid hkk
            have HROW := Lib.hid hrow
            have HBW4 := Lib.hid hbw4
            have HK4 := Lib.hid hk4
            have HM4 := Lib.hid hm4
            have HO4 := Lib.hid hown4
            clear hrow hh7 hm7 hlo7 hhW7 hk7 hp17 hkf hkp hhx hel hown4 hgrow4 hloc4 heq hbw4 hk4 hm4 hku hulen hkk
            go_simp
            refine anyC_one (i := 7) (by kernel_rfl) rfl rfl (.inl (by kernel_rfl)) ?_
            go_simp
            refine anyC_end (by kernel_rfl) (.inl (by kernel_rfl)) ?_
            gi_wp2_with (gi_at_builtin; go_must (refine wpListIn_append_run rfl _ _ _ rfl _ _ _ _ rfl rfl happ ?_))
            refine ⟨(HKF.out.trans (KeepsFrom.below HBW4.out (Nat.le_refl _))).trans (KeepsFrom.box (t := 32) HK4.out _), (HHX.out.below HBW4.out (Nat.le_refl _)).setCell (p := ⟨S + 1 + 1 + 1, 0, none⟩) (by simp) _, rfl, a :: u, A4, cap4, ?_, ?_, els_far HO4.out.els HK4.out (fun z h => by cases h) _, L7, HM4.out.setCell _ _, HLO7.out⟩
            · rw [List.findSome?_append, HFS.out]
              simp [HROW.out]
            · rw [← HKK.out]
              exact HK4.out.put 0 _
        case done =>
          intro D W hD hh hi hdef
          obtain ⟨hfs, hkW, L1, hmW, hlo⟩ := hi
          have HMK := Lib.hid (hmarks D W hD hh hdef)
          have hcn : circ t a x = none := by rw [circ_step t a HX0.out hp10, ← HX.out]; exact hfs
          have hp0 : Blk W S 94 #[.pointer (some ⟨Q, 0, none⟩)] := HQ0.out.held hh (by simp; omega)
          have hp4 : Blk W (S + 1 + 1 + 1 + 1) 119 #[.int .u32 (a : Int), .int .u32 (wN x)] := HQ4.out.held hh (by simp; omega)
          have hpq : Blk W Q 97 #[.slice (some ⟨b3, off3, none⟩) N c, .map (some r)] := HQ5.out.held hh (by simp; omega)
          obtain ⟨n1, hn1⟩ : ∃ n1 : Int, (getK L1 (nw a, x)).getD (.int .i64 0) = .int .i64 n1 := by
            cases hg : getK L1 (nw a, x) with
            | none => exact ⟨0, rfl⟩
            | some v =>
              obtain ⟨n, rfl, _⟩ := hlo (nw a) x v hg
              exact ⟨n, rfl⟩
          obtain ⟨W2, st, L3, hent, hM3, hget, hgrow2, hsz2, hst⟩ := run_entry (P := Tryd.prog) keyL_two Tryd.underlying95 (z := .int .i64 0) (fun u => by kernel_rfl) hmW.drew (nw a, x)
          obtain ⟨W3, hst3, hM4, hgrow3, hsz3⟩ := hst W2 (.int .i64 (IntKind.i64.wrap (n1 + 1))) rfl
          have hlookD := run_look (P := Tryd.prog) keyL_two Tryd.underlying95 (z := .int .i64 0) (fun u => by kernel_rfl) hmW.drew (nw a, x) false
          have hlook2 := run_look (P := Tryd.prog) keyL_two Tryd.underlying95 (z := .int .i64 0) (fun u => by kernel_rfl) hM3 (nw a, x) false
          rw [hget] at hlook2
          rw [hn1] at hent hlookD hlook2
          rw [HKEY.out] at hent hlookD hlook2
          simp only [Bool.false_eq_true, if_false, Option.getD_some] at hent hlookD hlook2
          have hg2 : Held [r] W W2 := ((Held.refl [r] W).drew1).turned hgrow2 (by simp)
          have hg3 : Held [r] W W3 := hg2.turned hgrow3 (by simp)
          have t0 := hp0.cell 0
          have t4 := hp4.cell 0
          have t5 := hp4.cell 1
          have t6 := hpq.cell 1
          have s0 := (hp0.held hg2 (by simp; omega)).cell 0
          have s4 := (hp4.held hg2 (by simp; omega)).cell 0
          have s5 := (hp4.held hg2 (by simp; omega)).cell 1
          have s6 := (hpq.held hg2 (by simp; omega)).cell 1
          have hk3 := hkW.held hg3 (by simp; omega)
          have u3 := hk3.cell 0
          have f3 := hk3.frozen 0
          have hh3 : Held [r, S + 1 + 1 + 1, S + 1 + 1 + 1 + 1 + 1] W5 W3 := hh.then hg3 (fun i hi _ => by simp at hi ⊢; omega)
          have hmk3 : Marks S [{ target := .collected D, args := #[] }] W3 := HMK.out.imp (fun E hE => (hg3.block E (lt_of_block hE) (fun hm => by
            simp only [List.mem_cons, List.not_mem_nil, or_false] at hm
            subst hm
            obtain ⟨es, ck, hb, _⟩ := hmW
            rw [hb] at hE
            cases hE)).trans hE)
          have HM3 := Lib.hid (hmk3.setCell (p := ⟨S + 1 + 1 + 1, 0, none⟩) (.slice none 0 0) (fun o ho he => by rw [show W3.heap[S + 1 + 1 + 1]? = _ from hk3] at ho; cases ho; cases he))
          have HP3 := Lib.hid (hk3.put 0 (.slice none 0 0))
          have HHH := Lib.hid (hh3.setCell (p := ⟨S + 1 + 1 + 1, 0, none⟩) (by simp) (.slice none 0 0))
          have HM4 := Lib.hid (hM4.setCell ⟨S + 1 + 1 + 1, 0, none⟩ (.slice none 0 0))
          have HLP := Lib.hid (lost_put hlo (IntKind.i64.wrap (n1 + 1)) (by rw [HNT.out]; exact hcn : circ t (nw a).toNat x = none))
          have HCN := Lib.hid hcn
          clear hh hdef hfs hkW hlo hmW hM3 hget hgrow2 hsz2 hst hM4 hgrow3 hsz3 hp0 hp4 hpq hg2 hg3 hk3 hh3 hmk3 HMK htw hk5b q6 hn1 hcn
          gi_wp2_with fail
          refine region_wide 9 10 (fun w' => w' = W.drew ∨ w' = W2) (by kernel_rfl) rfl ?_
          refine anyC_reads (by kernel_rfl) [0, 1, 2, 3, 4, 5, 6] ?ope ?ohe 3 _ _ _ (by kernel_rfl) ?oke
          case ohe => (simp only [List.filterMap_cons, List.filterMap_nil, List.getElem?_toArray, List.getElem?_cons_zero, List.getElem?_cons_succ]; try rfl)
          repeat (
            refine readC_step (v := ?_) rfl (fun w' hw' => ?_) ?_
            rotate_left
            focus (rcases hw' with rfl | rfl <;> go_simp; try with_reducible rfl)
            go_simp)
          refine readC_nil ?_
          refine anyC_one (i := 7) (by kernel_rfl) rfl rfl (.inr (.inl rfl)) ?_
          go_simp
          refine anyC_one (i := 8) (by kernel_rfl) rfl rfl (.inr (.inr rfl)) ?_
          go_simp
          refine anyC_one (i := 9) (by kernel_rfl) rfl rfl (.inr (.inr rfl)) ?_
          go_simp
          refine anyC_end (by kernel_rfl) (.inl (by kernel_rfl)) ?_
          gi_wp2_with fail
          refine bodyPostM_ret HM3.out fun w' hw' => ?_
          have hv := (HP3.out.shut hw').cell 0
          refine ⟨.slice none 0 0, by simp [results, Tryd.results68, go_sem, hv], ?_⟩
          have hmf : MapB w' r twoV (putK L1 (nw a, x) (.int .i64 (IntKind.i64.wrap (n1 + 1)))) := map_shut HM4.out hw'
          first
            | exact ⟨none, 0, 0, _, rfl, hfin _ _ HHH.out hw', hmf, HLP.out, by rw [HCN.out]; exact ⟨rfl, rfl, rfl⟩⟩
            | exact ⟨none, 0, 0, rfl, hfin _ _ HHH.out hw', _, hmf, HLP.out, by rw [HCN.out]; exact ⟨rfl, rfl, rfl⟩⟩
        case stop =>
          rintro D cd pre W hD hpre hh ⟨rfl, u, R, cr, hfs, hkW, hel, L1, hmW, hlo⟩ hdef
          have HMK := Lib.hid (hmarks D W hD hh hdef)
          have HP3 := Lib.hid hkW
          have HHH := Lib.hid hh
          have HEL := Lib.hid hel
          have HMW := Lib.hid hmW
          have HLOW := Lib.hid hlo
          have hall : circ t a x = some u := by
            rw [circ_step t a HX0.out hp10, ← HX.out]
            obtain ⟨z, hz⟩ := hpre
            rw [← hz, List.findSome?_append, hfs]
            rfl
          have HALL := Lib.hid hall
          clear hh hdef hfs hkW hel hmW hlo hpre hall htw hk5b q6
          gi_wp2_with fail
          refine bodyPostM_ret HMK.out fun w' hw' => ?_
          have hv := (HP3.out.shut hw').cell 0
          refine ⟨.slice R u.length cr, by simp [results, Tryd.results68, go_sem, hv], ?_⟩
          first
            | exact ⟨R, u.length, cr, L1, rfl, hfin _ _ HHH.out hw', map_shut HMW.out hw', HLOW.out, by rw [HALL.out]; exact ⟨rfl, els_shut (fun _ => rfl) (by omega) HEL.out hw'⟩⟩
            | exact ⟨R, u.length, cr, rfl, hfin _ _ HHH.out hw', L1, map_shut HMW.out hw', HLOW.out, by rw [HALL.out]; exact ⟨rfl, els_shut (fun _ => rfl) (by omega) HEL.out hw'⟩⟩
end Go.Proofs.YtnpcbbdfpbnakaaDoor
