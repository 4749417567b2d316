/- A base of words in a map; the rank of some words: the program's walk. Conditions: the words read as a list; the table. -/
import Derived.Test.YtnpcbbdfpbnakaaDoorLotsP
import Derived.Test.YtnpcbbdfpbnakaaDoorKeys
import Derived.Test.YtnpcbbdfpbnakaaDoorCollect
import Derived.Test.YtnpcbbdfpbnakaaDoorRegC
import Derived.Test.YtnpcbbdfpbnakaaDoorOrAll
namespace Go.Proofs.YtnpcbbdfpbnakaaDoor
open Go.RowKit Go.Shelf
attribute [local go_sem] Oper.semAt_some
attribute [local go_sem ↓] w_and w_or w_xor w_andNot w_and1 w_and255 w_xor1 w_or0 w_shl w_shl1 w_shr w_sub w_add w_sub1 w_add1
attribute [local go_sem] w_eq0 w_ne0 w_eq1 w_eq w_ne

/-- A range over a word's bits whose rounds write the boxes ex and a map made ahead of it. -/
theorem wpIn_bitsF {P : Program} {p q : Nat} {g : Operand} {assign body : Code} {Q : Exit → Act → World → Prop} {t : Array Value} {ds : List Deferred} {w : World} (n : Nat) (gf : FuncId) (bx : Nat) (ty : TypeId) (x0 : Value) (xs : List Nat) (ex : List Nat)
    (hg : ({ tmps := t, defers := ds } : Act).eval g = .func (.func gf) #[] #[.pointer (some ⟨bx, 0, none⟩)]) (eg : ∀ args w, (callFunc gf args).run P w = .ok (.enter gf args) w)
    (hseq : SeqE (n - 1) P gf bx ty x0 xs) (hbox : Boxed w bx ty x0) (htab : TabOk w) (hex : bx ∈ ex)
    (I : List Nat → World → Prop) (hI : OwnFrom w.heap.size I) (hst : ∀ s A v, I s A → I s (A.setCell ⟨bx, 0, none⟩ v)) (h0 : I [] w)
    (hassign : ∀ (l : Nat) (x : Nat) (W : World) (K : Act → World → Prop), K { tmps := (t.setIfInBounds p (.int .i64 (x : Nat))).setIfInBounds q (.int .i64 (x : Nat)), defers := [] } W →
      assign.wpIn (Fence.wide.inRound l) (n - 1 - 1) P (Exit.then K (fun _ _ _ => False)) { tmps := t.setIfInBounds p (.int .i64 (x : Nat)), defers := [] } W)
    (hbody : ∀ (l : Nat) (pre : List Nat) (x : Nat) (W : World), Held ex w W → I pre W → pre ++ [x] <+: xs → body.wpIn (Fence.wide.inRound l) (n - 1 - 1) P (ownPostG w.heap.size (KpE bx ty) (fun s W => Held ex w W ∧ I s W) (fun _ _ _ => False) (pre ++ [x]) W)
      { tmps := (t.setIfInBounds p (.int .i64 (x : Nat))).setIfInBounds q (.int .i64 (x : Nat)), defers := [] } W)
    (hdone : ∀ (D : Nat) (W : World), w.heap.size ≤ D → Held ex w W → I xs W → W.heap[D]? = some (.deferred (some [])) → Q .normal { tmps := t, defers := { target := .collected D, args := #[] } :: ds } W) :
    (Code.rangeFunc g #[p] assign body).wpIn Fence.wide n P Q { tmps := t, defers := ds } w := by
  refine wpIn_each n gf bx ty x0 xs hg eg hseq rfl hbox.lt hbox htab (fun s W => Held ex w W ∧ I s W) (fun _ _ _ => False) ?_ ?_ ?_ ⟨Held.refl _ _, h0⟩
    (fun x => { tmps := (t.setIfInBounds p (.int .i64 (x : Nat))).setIfInBounds q (.int .i64 (x : Nat)), defers := [] }) ?_ ?_ ?_ ?_
  · exact OwnFrom.and Held.own hI
  · exact fun c _ _ _ _ h _ _ => h
  · exact fun s A v h => ⟨h.1.setCell (p := ⟨bx, 0, none⟩) hex v, hst s A v h.2⟩
  · intro l x W K hK
    have e : (#[p].zip #[Value.int .i64 (x : Nat)]).foldl (fun t (p, v) => t.setIfInBounds p v) t = t.setIfInBounds p (.int .i64 (x : Nat)) := by simp
    have := hassign l x W K hK
    rw [← e] at this
    exact this
  · exact fun l pre x W h hp => hbody l pre x W h.1 h.2 hp
  · exact fun D W hD h hk => hdone D W hD h.1 h.2 hk
  · exact fun D c pre W hD hp h hk => h.elim
theorem Held.turned {ex : List Nat} {a w w' : World} {r : Nat} (h : Held ex a w) (hg : w.grownBy w' (some r)) (hr : r ∈ ex) : Held ex a w' :=
  ⟨hg.os.trans h.os, hg.tape.trans h.tape, hg.output.trans h.output, Nat.le_trans h.size hg.size, fun k hk hx => (hg.block k (Nat.lt_of_lt_of_le hk h.size) (fun e => by cases e; exact hx hr)).trans (h.block k hk hx)⟩

abbrev lotK (n : Int) : Value := .int .i64 n
theorem word_measure (a : BitVec 32) : bl (intOf (.int .u32 (wN a))).toNat = bl a.toNat := rfl
set_option maxRecDepth 100000 in
set_option maxHeartbeats 1000000 in
theorem base_add (r : Nat) (b : List (BitVec 32)) (x : BitVec 32) (w : World) (hm : MapB w r lotK (baseL b)) (hb : Base b) :
    Calls Tryd.prog 95 #[.map (some r), .int .u32 (wN x)] w fun e w' => ∃ (b' : List (BitVec 32)) (g : Bool), e = .returned (.bool g) ∧ AddR b x b' g ∧ MapB w' r lotK (baseL b') ∧ w.grownBy w' (some r) := by
  have HM := Lib.hid hm
  have HB := Lib.hid hb
  clear hm hb
  go_enter Tryd.func95, Tryd.ntmps95
  go_wp2_with fail
  go_loopw [1] (fun s wr => ∃ c : BitVec 32, s = .int .u32 (wN c) ∧ Sp b (wXor x c) ∧ wr = w) (fun s _ => bl (intOf s).toNat)
  case atStart => exact ⟨x, rfl, by rw [x_self]; exact Sp_0 b, rfl⟩
  case round =>
    rename World => wr
    obtain ⟨c, rfl, hs, rfl⟩ := hrel
    have HS := Lib.hid hs
    clear hs
    by_cases hc : c = w0
    · have hc0 : (c != w0) = false := by simp [hc]
      have HC := Lib.hid hc
      clear hc
      go_wp2_with fail
      go_ret
      exact ⟨b, false, rfl, AddR.old HB.out HS.out HC.out, HM.out, World.grownBy.refl _ _⟩
    · have hc0 : (c != w0) = true := by simp [hc]
      have HC := Lib.hid hc
      clear hc
      have hlook := run_look (P := Tryd.prog) (keyL_int Tryd.underlying3) Tryd.underlying118 (z := .int .u32 0) (fun u => by kernel_rfl) HM.out (bl c.toNat : Int) true
      rcases getK_base (bl c.toNat) b with ⟨hg, hno⟩ | ⟨y, hy, he, hg⟩
      · rw [hg] at hlook
        simp only [if_true, Option.getD_none, Option.isSome_none] at hlook
        obtain ⟨W2, hput, hM2, hgrow, hsz⟩ := run_put (P := Tryd.prog) (keyL_int Tryd.underlying3) Tryd.underlying118 HM.out (bl c.toNat : Int) (.int .u32 (wN c))
        rw [putK_base hno] at hM2
        have HNO := Lib.hid hno
        have HM2 := Lib.hid hM2
        have HG := Lib.hid hgrow
        clear hno hM2 hgrow hsz hg
        go_wp2_with fail
        refine (Len32_any c _).mono ?_
        rintro e w' ⟨rfl, rfl⟩
        go_wp2_with fail
        go_ret
        exact ⟨b ++ [c], true, rfl, AddR.new HB.out HS.out HC.out HNO.out, HM2.out, HG.out⟩
      · rw [hg] at hlook
        simp only [if_true, Option.getD_some, Option.isSome_some] at hlook
        have HST := Lib.hid (AddR.step HB.out HS.out HC.out hy he)
        clear hy he hg
        go_wp2_with fail
        refine (Len32_any c _).mono ?_
        rintro e w' ⟨rfl, rfl⟩
        go_wp2_with fail
        go_roundw
        case rel => exact ⟨wXor c y, rfl, HST.out.1, trivial⟩
        case measure => rw [word_measure, word_measure]; exact HST.out.2
theorem own_map {W0 : World} {r : Nat} {b : List Nat → List (BitVec 32) → Prop} (hr : r < W0.heap.size) : OwnFrom W0.heap.size (fun (pre : List Nat) W => ∃ bs, b pre bs ∧ MapB W r lotK (baseL bs)) :=
  fun pre X Y row h hg hrow => by
    obtain ⟨bs, h1, h2⟩ := h
    exact ⟨bs, h1, h2.grown hg (fun e => by have := (hrow r e.symm).1; omega)⟩

set_option maxRecDepth 100000 in
set_option maxHeartbeats 1000000 in
theorem lots_rank (A : Option Addr) (n c : Nat) (t : List (BitVec 32)) (x : BitVec 32) (w : World) (hl : t.length = n) (hn : n ≤ 32) (hr : Els w w.heap.size 1 wcell A t) (htab : TabOk w) (hx : ∀ j ∈ bitsL x, j < n) :
    Calls Tryd.prog 63 #[.slice A n c, .int .u32 (wN x)] w fun e w' => e = .returned (.int .i64 (rk ((bitsL x).map (lw t)).reverse)) ∧ Below w.heap.size w w' := by
  have h0w : 0 < w.heap.size := Nat.lt_of_le_of_lt (Nat.zero_le _) htab.1
  have HL := Lib.hid hl
  have HX := Lib.hid hx
  clear hl hx
  refine (callsIn_wide (n := 9)).1 ?_
  refine callsIn_of_wp_marks Tryd.func63 rfl trivial ?_ rfl
  simp only [Tryd.ntmps63, List.size_toArray, List.length_cons, List.length_nil, Nat.reduceAdd, Nat.reduceSub, Array.replicate_succ, Array.replicate_zero, List.push_toArray, List.append_toArray, List.nil_append, List.cons_append]
  have hmk : (Instr.makeMap 118 none).run Tryd.prog (w.alloc (.cells #[.slice A n c] 41)) = .ok (.map (some (w.heap.size + 1))) ((w.alloc (.cells #[.slice A n c] 41)).alloc (.map #[] 0)) := by rw [run_makeMap, size_alloc']
  gi_wp2_with fail
  refine wide_call2 ((graph_Each x _).mono ?_)
  rintro e W3 ⟨rfl, rfl⟩
  gi_wp2_with fail
  obtain ⟨S, hS⟩ : ∃ S, S = w.heap.size := ⟨_, rfl⟩
  obtain ⟨W1, hW1⟩ : ∃ W1, W1 = (((w.alloc (.cells #[.slice A n c] 41)).alloc (.map #[] 0)).alloc (.cells #[.map (some (w.heap.size + 1))] 118)).alloc (.cells #[.int .u32 (wN x)] 46) := ⟨_, rfl⟩
  have hB1 : Below S w W1 := by rw [hW1, hS]; exact (((((Below.refl _ w).alloc (Nat.le_refl _) _).alloc (by simp) _).alloc (by first | (simp; done) | (simp; omega)) _).alloc (by first | (simp; done) | (simp; omega)) _)
  have hk0 : Blk W1 S 41 #[.slice A n c] := by rw [hW1, hS]; exact (((Blk.new w _ _).alloc _).alloc _).alloc _
  have hk1 : MapB W1 (S + 1) lotK (baseL []) := by
    have := (((MapB.made (kv := lotK) (w.alloc (.cells #[.slice A n c] 41))).alloc (.cells #[.map (some (w.heap.size + 1))] 118)).alloc (.cells #[.int .u32 (wN x)] 46))
    rw [size_alloc'] at this
    rw [hW1, hS]; exact this
  have hk2 : Blk W1 (S + 1 + 1) 118 #[.map (some (S + 1))] := by rw [hW1, hS]; exact (Blk.new_at (by simp)).alloc _
  have hk3 : Blk W1 (S + 1 + 1 + 1) 46 #[.int .u32 (wN x)] := by rw [hW1, hS]; exact Blk.new_at (by simp)
  have hz1 : W1.heap.size = S + 1 + 1 + 1 + 1 := by rw [hW1, hS]; simp
  have ht1 : TabOk W1 := htab.below hB1 (by omega)
  rw [← hW1, ← hS]
  rw [← hS] at hr
  have HB1 := Lib.hid hB1
  have HK0 := Lib.hid hk0
  have HK1 := Lib.hid hk1
  have HK2 := Lib.hid hk2
  have HK3 := Lib.hid hk3
  have HR := Lib.hid hr
  have hS0 : 0 < S := by omega
  have HS := Lib.hid hS
  clear hW1 hS hB1 hk0 hk1 hk2 htab hr hmk
  refine wpIn_bitsF (p := 10) (q := 6) 9 83 (S + 1 + 1 + 1) 46 (.int .u32 (wN x)) (bitsL x) [S + 1, S + 1 + 1 + 1] rfl (enters_of Tryd.func83 (by kernel_rfl) rfl)
    (Each1_seq _ _ _ (by omega)) (show Boxed W1 (S + 1 + 1 + 1) _ _ from hk3) ht1 (by simp) (fun pre W => ∃ bs, Spans bs (pre.map (lw t)).reverse ∧ MapB W (S + 1) lotK (baseL bs))
    (own_map (b := fun pre bs => Spans bs (pre.map (lw t)).reverse) (by omega))
    (fun s X v h => by obtain ⟨bs, h1, h2⟩ := h; exact ⟨bs, h1, h2.setCell _ _⟩) ⟨[], Spans_nil, HK1.out⟩ ?assign ?body ?done
  case assign =>
    intro l' j W K hK
    simp only [List.setIfInBounds_toArray, List.set_cons_succ, List.set_cons_zero] at hK ⊢
    gi_wp2_with fail
    exact hK
  case body =>
    intro l' pre j W hh hi hpre
    obtain ⟨bs, hsp, hmap⟩ := hi
    have hjn : j < n := HX.out j (by obtain ⟨z, hz⟩ := hpre; rw [← hz]; simp)
    have hjl : j < t.length := by rw [HL.out]; exact hjn
    have hbW := HB1.out.trans (hh.to (B := S) (by omega) (by first | (simp; done) | (simp; omega)))
    obtain ⟨b', off', rfl, _, g1⟩ := (HR.out.below hbW).at1 hjl
    rw [← lw_at t j hjl] at g1
    have hk0 : Blk W S 41 #[.slice (some ⟨b', off', none⟩) n c] := (hh.block S (by omega) (by first | (simp; done) | (simp; omega))).trans HK0.out
    have hk2 : Blk W (S + 1 + 1) 118 #[.map (some (S + 1))] := (hh.block (S + 1 + 1) (by omega) (by first | (simp; done) | (simp; omega))).trans HK2.out
    have c0 := hk0.cell 0
    have c2 := hk2.cell 0
    have hlt := hmap.lt
    have HH := Lib.hid hh
    have HSP := Lib.hid hsp
    have HC := Lib.hid (base_add (S + 1) bs (lw t j) W.drew hmap.drew hsp.1)
    simp only [List.setIfInBounds_toArray, List.set_cons_succ, List.set_cons_zero]
    clear hh hsp hk0 hk2 hbW hmap
    gi_wp2_with fail
    refine region_round 5 6 (fun w' => w' = W.drew) (by kernel_rfl) rfl (by kernel_rfl) ?_
    refine anyC_reads (by kernel_rfl) [0, 1, 2, 3, 4] ?opl ?ohl 1 _ _ _ (by kernel_rfl) ?okk
    case ohl => (simp only [List.filterMap_cons, List.filterMap_nil, List.getElem?_toArray, List.getElem?_cons_zero, List.getElem?_cons_succ]; try rfl)
    case okk =>
      repeat (
        refine readC_step (v := ?_) rfl (fun w' hw' => ?_) ?_
        rotate_left
        focus (subst hw'; go_simp; try with_reducible rfl)
        go_simp)
      refine readC_nil ?_
      refine anyC_one (i := 5) (by kernel_rfl) rfl rfl (.inr rfl) ?_
      go_simp
      refine HC.out.mono ?_
      clear HC
      rintro e v1 ⟨b2, g, rfl, hadd, hm2, hg2⟩
      have HADD := Lib.hid hadd
      have HM2 := Lib.hid hm2
      have HG2 := Lib.hid hg2
      clear hadd hm2 hg2
      go_simp
      refine anyC_end (by kernel_rfl) (.inl (by kernel_rfl)) ?_
      gi_wp2_with fail
      have hkf : KeepsFrom W1.heap.size W v1 := (KeepsFrom.drew (KeepsFrom.refl _ _)).trans (KeepsFrom.of_grownBy HG2.out (fun j hj => by cases hj; omega))
      refine ⟨hkf, ?_, HH.out.drew1.turned HG2.out (by simp), b2, ?_, HM2.out⟩
      · exact ⟨fun v hv => (HG2.out.block _ hv.lt (fun e => by have := Option.some.inj e; omega)).trans hv, fun ht => ht.block HG2.out.size (HG2.out.block 0 (Nat.lt_of_le_of_lt (Nat.zero_le _) hlt) (by simp))⟩
      · rw [List.map_append, List.reverse_append]
        exact HSP.out.step HADD.out
  case done =>
    intro D W hD hh hi hdef
    obtain ⟨bs, hsp, hmap⟩ := hi
    have HH := Lib.hid hh
    have HMK := Lib.hid ((Marks.nil S W1).cons rfl hD (by omega) (fun k hk he => by
      refine (hh.block k hk (fun hm => ?_)).trans he
      simp only [List.mem_cons, List.not_mem_nil, or_false] at hm
      rcases hm with rfl | rfl
      · obtain ⟨es, ck, hb, _⟩ := HK1.out
        rw [hb] at he
        cases he
      · exact Boxed.noMark HK3.out he) hdef)
    have hk2 : Blk W (S + 1 + 1) 118 #[.map (some (S + 1))] := (hh.block (S + 1 + 1) (by omega) (by first | (simp; done) | (simp; omega))).trans HK2.out
    have c2 := hk2.cell 0
    have hlen : (Builtin.len_ #[118] 3 #[.map (some (S + 1))]).run Tryd.prog W = .ok (.int .i64 (rk ((bitsL x).map (lw t)).reverse)) W := by
      obtain ⟨es, ck, hb, hrep⟩ := hmap
      rw [run_len_map (P := Tryd.prog) (w := W) 118 3 (S + 1) es ck (by kernel_rfl) hb, ← hsp.2.2]
      have := congrArg List.length hrep.1
      simp [baseL] at this
      rw [this]
      rfl
    clear hh hdef hk2 hmap hsp
    gi_wp2_with fail
    refine bodyPostM_ret HMK.out fun w' hw' => ?_
    exact ⟨_, by simp [results, Tryd.results63, go_sem], rfl, by rw [← HS.out]; exact (HB1.out.trans (HH.out.to (B := S) (by omega) (by simp; omega))).trans hw'.1⟩
end Go.Proofs.YtnpcbbdfpbnakaaDoor
