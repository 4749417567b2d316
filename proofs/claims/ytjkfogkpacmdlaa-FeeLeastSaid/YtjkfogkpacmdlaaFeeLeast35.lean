/- A way with room: the program's search. Conditions: the net lies still, what goes is a flow. -/
import Derived.Test.YtjkfogkpacmdlaaFeeLeast33
import Derived.Test.YtjkfogkpacmdlaaFeeLeast34
namespace Go.Proofs.Ytjkfogkpacmdlaa
open Go.RowKit Go.Shelf
attribute [local go_sem] Oper.semAt_some

/-- What holds amid a look at all steps from a node. -/
def WayIn (S Qb g0 p : Nat) (l : List Arc) (gs : List Int) (s : Int) (a : Int) (wr : World) (pre : List Stp) (W : World) : Prop :=
  Held [S + 2, Qb, g0] wr W ∧ ∃ (K : List (Int × Stp)) (A9 : Option Addr) (cap : Nat), p < K.length + 1 ∧ MapB W (S + 2) kint (mapL K) ∧ Blk W Qb 30 #[.slice A9 (K.length + 1 - p) cap] ∧ Fifo W (S + 4) A9 cap ((keysO s K).drop p) ∧ (∀ g, blkOf A9 = some g → g = g0 ∨ wr.heap.size ≤ g) ∧ BfsI l gs s K ∧ Scd l gs s K p ∧ Sct l gs s K a pre ∧ (keysO s K)[p]? = some a
/-- What the search tells: none, and then a set that lets go just what goes; or a way, and how much. -/
def WayR (l : List Arc) (gs : List Int) (s t : Nat) (v : Int) (w : World) (e : Ending) (w' : World) : Prop :=
  Below w.heap.size w w' ∧
    ((e = .returned (.tuple #[.slice none 0 0, .int .i64 0]) ∧ ∃ p : Int → Bool, p s = true ∧ p t = false ∧ capP p l = v) ∨
     (∃ (h sz k ck : Nat) (ws : List Stp) (K : List (Int × Stp)), e = .returned (.tuple #[.slice (some ⟨h, 0, none⟩) k ck, .int .i64 (leastR l gs ws)]) ∧ ws.length = k ∧ StpB w' h sz k (fun i => ws.getD i (0, false)) ∧ w.heap.size ≤ h ∧ BfsI l gs s K ∧ BackW l K s t ws))
set_option maxRecDepth 100000 in
set_option maxHeartbeats 4000000 in
theorem flow_way (P N g B0 m c cg : Nat) (A : Option Addr) (l : List Arc) (gs : List Int) (s t : Nat) (v : Int) (w : World) (hk : Blk w P 80 #[.int .i64 N, .slice A m c, .slice (some ⟨g, 0, none⟩) m cg]) (ha : Els w B0 4 Arc.cells A l) (hB0 : B0 ≤ w.heap.size) (hg : GoesB w g gs)
    (hl : l.length = m) (hgl : gs.length = m) (hm : m ≤ 1000) (hN : N ≤ 1000) (hin : InN N l) (hs : s < N) (ht : t < N) (hst : s ≠ t) (hfl : FlowV N l gs s t v) (hM : ∀ a ∈ l, 0 ≤ a.m ∧ a.m ≤ 1048576) :
    Calls Try.prog 46 #[.pointer (some ⟨P, 0, none⟩), .int .i64 s, .int .i64 t] w (WayR l gs s t v w) := by
  obtain ⟨S, hS⟩ : ∃ S, S = w.heap.size := ⟨_, rfl⟩
  have hop : Opened w S P N A m c (some ⟨g, 0, none⟩) cg l gs := ⟨hk, ha.more (by omega), hg.els (by have := Blk.lt hg; omega), hl, hgl⟩
  have hPS : P < S := by rw [hS]; exact hk.lt
  have HOP := Lib.hid hop
  clear hop hk ha hg
  refine (callsIn_wide (n := 9)).1 ?_
  refine callsIn_of_wp_marks Try.func46 rfl trivial ?_ rfl
  simp only [Try.ntmps46, List.size_toArray, List.length_cons, List.length_nil, Nat.reduceAdd, Nat.reduceSub, Array.replicate_succ, Array.replicate_zero, List.push_toArray, List.append_toArray, List.nil_append, List.cons_append]
  have hmk : ∀ W : World, (Instr.makeMap 111 none).run Try.prog W = .ok (.map (some W.heap.size)) (W.alloc (.map #[] 0)) := fun W => by rw [run_makeMap]
  gi_wp2_with fail
  rw [← hS]
  obtain ⟨W1, hW1⟩ : ∃ W1, W1 = ((((((w.alloc (.cells #[.pointer (some ⟨P, 0, none⟩)] 68)).alloc (.cells #[.int .i64 s] 3)).alloc (.map #[] 0)).alloc (.cells #[.map (some (S + 1 + 1))] 111)).alloc (.cells #[.int .i64 s] 3)).alloc (.cells #[.slice (some ⟨S + 1 + 1 + 1 + 1, 0, none⟩) 1 1] 30)) := ⟨_, rfl⟩
  have b0 := Blk.new w 68 #[.pointer (some ⟨P, 0, none⟩)]
  have b1 := Blk.new (w.alloc (.cells #[.pointer (some ⟨P, 0, none⟩)] 68)) 3 #[.int .i64 s]
  have b2 := MapB.made (kv := kint) ((w.alloc (.cells #[.pointer (some ⟨P, 0, none⟩)] 68)).alloc (.cells #[.int .i64 s] 3))
  have b3 := Blk.new (((w.alloc (.cells #[.pointer (some ⟨P, 0, none⟩)] 68)).alloc (.cells #[.int .i64 s] 3)).alloc (.map #[] 0)) 111 #[.map (some (S + 1 + 1))]
  have b4 := Fifo.start (w := ((((w.alloc (.cells #[.pointer (some ⟨P, 0, none⟩)] 68)).alloc (.cells #[.int .i64 s] 3)).alloc (.map #[] 0)).alloc (.cells #[.map (some (S + 1 + 1))] 111))) (B := S + 4) s (by simp only [size_alloc', ← hS]; omega)
  have b5 := Blk.new (((((w.alloc (.cells #[.pointer (some ⟨P, 0, none⟩)] 68)).alloc (.cells #[.int .i64 s] 3)).alloc (.map #[] 0)).alloc (.cells #[.map (some (S + 1 + 1))] 111)).alloc (.cells #[.int .i64 s] 3)) 30 #[.slice (some ⟨S + 1 + 1 + 1 + 1, 0, none⟩) 1 1]
  simp only [size_alloc', ← hS] at b1 b2 b3 b4 b5
  rw [← hS] at b0
  have hz1 : W1.heap.size = S + 1 + 1 + 1 + 1 + 1 + 1 := by rw [hW1, hS]; simp only [size_alloc']
  have hb1 : Below S w W1 := by
    rw [hW1, hS]
    refine ((((((Below.refl _ w).alloc (Nat.le_refl _) _).alloc ?_ _).alloc ?_ _).alloc ?_ _).alloc ?_ _).alloc ?_ _ <;> simp only [size_alloc'] <;> omega
  have hk0 : Blk W1 S 68 #[.pointer (some ⟨P, 0, none⟩)] := by rw [hW1]; exact ((((b0.alloc _).alloc _).alloc _).alloc _).alloc _
  have hk1 : Blk W1 (S + 1) 3 #[.int .i64 s] := by rw [hW1]; exact (((b1.alloc _).alloc _).alloc _).alloc _
  have hmp : MapB W1 (S + 2) kint (mapL []) := by rw [hW1]; exact ((b2.alloc _).alloc _).alloc _
  have hk3 : Blk W1 (S + 3) 111 #[.map (some (S + 2))] := by rw [hW1]; exact (b3.alloc _).alloc _
  have hk4 : Fifo W1 (S + 4) (some ⟨S + 4, 0, none⟩) 1 ((keysO s []).drop 0) := by
    rw [hW1]
    exact b4.kept fun g hg => by
      have : S + 4 = g := by simpa [blkOf] using hg
      subst this
      exact Below.heap_alloc _ _ _ (by simp only [size_alloc', ← hS]; omega)
  have hk5 : Blk W1 (S + 5) 30 #[.slice (some ⟨S + 4, 0, none⟩) 1 1] := by rw [hW1]; exact b5
  rw [← hW1]
  rw [show S + 1 + 1 + 1 + 1 + 1 = S + 5 from rfl, show S + 1 + 1 + 1 = S + 3 from rfl, show S + 1 + 1 = S + 2 from rfl]
  have HS := Lib.hid hS
  have hwS : w.heap.size ≤ S := by omega
  clear b0 b1 b2 b3 b4 b5 hW1 hS hmk
  have HB1 := Lib.hid hb1
  have HK0 := Lib.hid hk0
  have HK1 := Lib.hid hk1
  have HK3 := Lib.hid hk3
  have HK4 := Lib.hid hk4
  have HK5 := Lib.hid hk5
  have HMP := Lib.hid hmp
  clear hb1 hk0 hk1 hk3 hk4 hk5 hmp
  refine (wpIn_loop_marks (F := Fence.wide) (n := 9) [9, 27, 28, 29, 30, 31, 32, 33, 73]
    (fun g ds wr => ∃ (Qb p cap : Nat) (A9 : Option Addr) (K : List (Int × Stp)), g 9 = .pointer (some ⟨Qb, 0, none⟩) ∧ p ≤ K.length + 1 ∧ S + 5 ≤ Qb ∧ Below S w wr ∧ Blk wr S 68 #[.pointer (some ⟨P, 0, none⟩)] ∧ Blk wr (S + 1) 3 #[.int .i64 s] ∧ MapB wr (S + 2) kint (mapL K) ∧ Blk wr (S + 3) 111 #[.map (some (S + 2))] ∧
      Blk wr Qb 30 #[.slice A9 (K.length + 1 - p) cap] ∧ Fifo wr (S + 4) A9 cap ((keysO s K).drop p) ∧ BfsI l gs s K ∧ Scd l gs s K p ∧ Marks S ds wr)
    (fun g wr => qz N (S + 2) (g 9) wr) ?same ⟨S + 5, 0, 1, some ⟨S + 4, 0, none⟩, [], ?s9, Nat.zero_le _, Nat.le_refl _, HB1.out, HK0.out, HK1.out, HMP.out, HK3.out, HK5.out, HK4.out, BfsI.nil l gs s, (fun q hq => by omega), Marks.nil _ _⟩ ?round (fun g g' w h => by simp only [h 9 (by simp)]) (by decide) 105 rfl (by decide))
  case same => simp only [patch, slot, List.foldl_cons, List.foldl_nil, List.set_cons_succ, List.set_cons_zero, List.getD_cons_succ, List.getD_cons_zero]
  case s9 => (simp only [slot, List.getD_cons_succ, List.getD_cons_zero]; try rfl)
  case round =>
    clear HB1 HK0 HK1 HMP HK3 HK5 HK4 hz1
    rintro g9 ds wr Kq ⟨Qb, p, cap, A9, K, hg9, hp, hQb, hb, hk0, hk1, hmp, hk3, hk5, hk4, hbf, hsc, hmks⟩ hKq
    refine wpIn_wide.2 ?_
    simp only [patch, List.foldl_cons, List.foldl_nil, List.set_cons_succ, List.set_cons_zero, hg9]
    have HKQ := Lib.hid hKq
    obtain ⟨n, hn⟩ : ∃ n, n = K.length + 1 - p := ⟨_, rfl⟩
    rw [← hn] at hk5
    have c9 := hk5.cell 0
    have c3 := hk0.cell 0
    have hKN := keys_le hbf hin hs
    have HB := Lib.hid hb
    have HK0 := Lib.hid hk0
    have HK1 := Lib.hid hk1
    have HMP := Lib.hid hmp
    have HK3 := Lib.hid hk3
    have HK4 := Lib.hid hk4
    have HK5 := Lib.hid hk5
    have HBF := Lib.hid hbf
    have HSC := Lib.hid hsc
    have HM := Lib.hid hmks
    have HG9 := Lib.hid hg9
    have HNN := Lib.hid hn
    clear hKq hb hk0 hk1 hmp hk3 hk4 hk5 hbf hsc hmks hg9 hn
    by_cases hlt : 0 < n
    · have hpK : p < K.length + 1 := by have := HNN.out; omega
      have hpl : p < (keysO s K).length := by rw [keysO_length]; exact hpK
      obtain ⟨a, ha⟩ : ∃ a, (keysO s K)[p]? = some a := ⟨_, List.getElem?_eq_getElem hpl⟩
      have hdr : (keysO s K).drop p = a :: (keysO s K).drop (p + 1) := by
        rw [List.drop_eq_getElem_cons hpl]
        rw [List.getElem?_eq_getElem hpl] at ha
        injection ha with ha
        rw [ha]
      obtain ⟨g0, off0, hA9, hq0⟩ := HK4.out.cell (j := 0) (by rw [hdr]; simp)
      have hg0 := HK4.out.lt g0 (by rw [hA9]; rfl)
      go_wp2_with fail
      have hk5w := HK5.out.lt
      have hop2 := HOP.out.below HB.out hPS
      have HLK := Lib.hid hop2.1
      have hPW : P < wr.heap.size := hop2.1.lt
      have hMW := HMP.out.lt
      have hwr := HB.out.size
      have hzS : S ≤ wr.heap.size := Nat.le_of_lt (Nat.lt_of_le_of_lt (by omega) hk5w)
      have HA := Lib.hid ha
      have HA9 := Lib.hid hA9
      clear hop2 c9 c3 ha hq0 hdr hA9
      refine wpIn_wide.1 (wpIn_iterB1 (p := 34) (q := 10) 9 59 #[.pointer (some ⟨P, 0, none⟩)] #[] (fun x : Stp => stepV x) (fun x => #[.int .i64 x.1, .bool x.2]) 77 (fun V => Blk V P 80 #[.int .i64 N, .slice A m c, .slice (some ⟨g, 0, none⟩) m cg]) (fun _ _ => True) (fun _ _ => True) (fun W W' => W = W') (stepsL m) rfl (enters_of Try.func59 (by kernel_rfl) rfl)
        (steps_seq P N A m c _ (by omega)) (fun V hV hs => HLK.out.below hV hPW) (fun X Y k h _ _ _ => by rw [h]) (fun _ _ _ _ _ => trivial) (fun _ _ _ => trivial) (fun _ _ => trivial) (fun _ _ _ _ => trivial) (fun _ _ => trivial)
        (WayIn S Qb g0 p l gs s a wr)
        (fun _ _ _ => False) ?own (fun _ _ _ _ _ h _ _ => h) (fun s X Y h e => by rw [← e]; exact h) (fun _ _ _ _ h _ => h) ?ini ?assign ?body ?done (fun _ _ _ _ _ _ h _ => h.elim))
      case own =>
        rintro pre X Y row ⟨hh, K, A9, cap, h1, h2, h3, h4, h5, h6⟩ hg hr
        exact ⟨hh.grown2 hg (fun g e => .inr (hr g e).1), K, A9, cap, h1, h2.same (hg.block _ h2.lt (fun e => by have := (hr _ e.symm).1; omega)), blk_kept h3 hg (fun r e => (hr r e).2), h4.ownk hg (fun r e => (hr r e).2), h5, h6⟩
      case ini =>
        refine ⟨Held.refl _ _, K, A9, cap, hpK, HMP.out, by rw [← HNN.out]; exact HK5.out, HK4.out, fun g hg => .inl ?_, HBF.out, HSC.out, (fun x hx => nomatch hx), HA.out⟩
        rw [HA9.out] at hg
        simpa [blkOf] using hg.symm
      case assign =>
        intro m' l' x W K' hK'
        simp only [List.setIfInBounds_toArray, List.set_cons_succ, List.set_cons_zero] at hK' ⊢
        gi_wp2_with fail
        exact hK'
      case body =>
        rintro m' l' pre x W b ⟨hh, K, A9', cap', hpK, hmp, hk5, hk4, hA5, hbf, hsc, hsct, ha⟩ _ hpx hb hkb
        simp only [List.setIfInBounds_toArray, List.set_cons_succ, List.set_cons_zero]
        have hx1 : x.1 < m := by
          obtain ⟨z, hz⟩ := hpx
          exact mem_stepsL.1 (by rw [← hz]; simp)
        obtain ⟨i, bb⟩ := x
        simp only at hx1 hkb
        have hBW : Below S w W := HB.out.trans (hh.to (B := S) hzS (by
          intro k hk
          simp only [List.mem_cons, List.not_mem_nil, or_false] at hk
          rcases hk with rfl | rfl | rfl <;> omega))
        have hopW := HOP.out.below hBW hPS
        have hzW : wr.heap.size ≤ W.heap.size := hh.size
        have nS : ∀ k, k < S + 4 → k ≠ S + 2 → k ∉ [S + 2, Qb, g0] := fun k h1 h2 => by
          have := hg0.1
          simp only [List.mem_cons, List.not_mem_nil, or_false, not_or]
          omega
        have hmb := hM (l.getD i z4) (by rw [getD_at l i (by omega)]; exact List.getElem_mem _)
        have hcb := hfl.cap.at_ (i := i) (by omega)
        have HCALL := Lib.hid (flow_Room S P N A m c (some ⟨g, 0, none⟩) cg l gs i bb W hopW hx1 (by omega) (by omega) (by omega) ⟨hcb.1, hcb.2, hmb.2⟩)
        obtain ⟨rr, hrr⟩ : ∃ rr, rr = roomS (l.getD i z4) (gs.getD i 0) bb := ⟨_, rfl⟩
        obtain ⟨af, haf⟩ : ∃ af, af = fromS (l.getD i z4) bb := ⟨_, rfl⟩
        obtain ⟨bt, hbt⟩ : ∃ bt, bt = toS (l.getD i z4) bb := ⟨_, rfl⟩
        rw [← hrr, ← haf, ← hbt] at HCALL
        obtain ⟨n', hn'⟩ : ∃ n', n' = K.length + 1 - p := ⟨_, rfl⟩
        have hKN2 := keys_le hbf hin hs
        rw [← hn'] at hk5
        have hk0W := Blk.held hh HK0.out (nS S (by omega) (by omega))
        have hk1W := Blk.held hh HK1.out (nS (S + 1) (by omega) (by omega))
        have hk3W := Blk.held hh HK3.out (nS (S + 3) (by omega) (by omega))
        have c3 := hk0W.cell 0
        have cb0 := hkb.cell 0
        have cb1 := hkb.cell 1
        have hdl : ((keysO s K).drop p).length = n' := by rw [List.length_drop, keysO_length, hn']
        obtain ⟨gq, offq, hAq, hq0⟩ := hk4.cell (j := 0) (by omega)
        have hqa : ((keysO s K).drop p)[0]'(by omega) = a := by
          have := List.getElem?_drop (xs := keysO s K) (i := p) (j := 0)
          rw [List.getElem?_eq_getElem (by omega), Nat.add_zero, ha] at this
          injection this
        have hgq := hk4.lt gq (by rw [hAq]; rfl)
        have hgq0 := hA5 gq (by rw [hAq]; rfl)
        gi_wp2_with fail
        refine round_callI (HCALL.out.mono ?_)
        clear HCALL
        rintro e W3 ⟨rfl, hb3⟩
        have hH3 : Held [] W W3 := (Held.refl [] W).below hb3 (Nat.le_refl _)
        have hmp3 := hmp.held hH3 (by simp)
        have k13 := (Blk.held hH3 hk1W (by simp)).alloc
        have k33 := Blk.held hH3 hk3W (by simp)
        have k53 := Blk.held hH3 hk5 (by simp)
        have kb3 := Blk.held hH3 hkb (by simp)
        have q43 := hk4.held hH3 (by simp)
        obtain ⟨y, sn, hlook, hsn⟩ : ∃ (y : Stp) (sn : Bool), (Instr.lookup 111 (.map (some (S + 2))) (.int .i64 bt) true).run Try.prog W3 = .ok (.tuple #[.agg #[.int .i64 y.1, .bool y.2], .bool sn]) W3 ∧ (sn = true ↔ bt ∈ K.map Prod.fst) := by
          have hlook := run_look (P := Try.prog) (keyL_int Try.underlying3) Try.underlying111 (z := stepV (0, false)) (fun u => by kernel_rfl) hmp3 bt true
          by_cases hbk : bt ∈ K.map Prod.fst
          · obtain ⟨y, _, hy⟩ := getK_mapL hbk
            rw [hy] at hlook
            exact ⟨y, true, hlook, by simp [hbk]⟩
          · rw [getK_mapL_none hbk] at hlook
            exact ⟨(0, false), false, hlook, by simp [hbk]⟩
        obtain ⟨W4, hW4⟩ : ∃ W4, W4 = W3.alloc (.cells #[.int .i64 y.1, .bool y.2] 77) := ⟨_, rfl⟩
        have hH4 : Held [] W W4 := by rw [hW4]; exact hH3.alloc _
        have hmp4 : MapB W4 (S + 2) kint (mapL K) := by rw [hW4]; exact hmp3.alloc _
        have k54 : Blk W4 Qb 30 #[.slice A9' n' cap'] := by rw [hW4]; exact k53.alloc _
        have q44 : Fifo W4 (S + 4) A9' cap' ((keysO s K).drop p) := by rw [hW4]; exact q43.held ((Held.refl [] W3).alloc _) (by simp)
        have hzero : ∀ act : Act, (0 < rr → af = a → bt ∈ keysO s K) → ownPostG wr.heap.size (fun _ _ => True) (WayIn S Qb g0 p l gs s a wr) (fun _ _ _ => False) (pre ++ [(i, bb)]) W .normal act W4 := fun act hx => by
          refine ⟨KeepsFrom.held2 hH4 (by simp), trivial, hh.then hH4 (by simp), K, A9', cap', hpK, hmp4, by rw [← hn']; exact k54, q44, hA5, hbf, hsc, hsct.next (x := (i, bb)) (fun h1 h2 => ?_), ha⟩
          have := hx (by rw [hrr]; exact h1) (by rw [haf]; exact h2)
          rw [hbt] at this
          exact this
        obtain ⟨gp, offp, hAq4, dq⟩ := q44.cell (j := 0) (by omega)
        obtain ⟨rfl, rfl⟩ : gq = gp ∧ offq = offp := by
          rw [hAq] at hAq4
          simpa using hAq4
        rw [hqa] at dq
        have d9 := k54.cell 0
        rw [hAq] at d9
        have d1 : W4.cell? ⟨S + 1, 0, none⟩ = some (.int .i64 s) := by rw [hW4]; exact (k13 _).cell 0
        have d3 : W4.cell? ⟨S + 3, 0, none⟩ = some (.map (some (S + 2))) := by rw [hW4]; exact (k33.alloc _).cell 0
        have e0 : W4.cell? ⟨b, 0, none⟩ = some (.int .i64 i) := by rw [hW4]; exact (kb3.alloc _).cell 0
        have e1 : W4.cell? ⟨b, 1, none⟩ = some (.bool bb) := by rw [hW4]; exact (kb3.alloc _).cell 1
        have cS3 := k33.cell 0
        have hn0 : 0 < n' := by omega
        rw [Nat.add_zero] at dq
        have HZ := Lib.hid hzero
        have HNP := Lib.hid hn'
        have HKW4 := Lib.hid hk4
        have HDL := Lib.hid hdl
        have hKp : n' ≤ 1000 := by omega
        have HSN := Lib.hid hsn
        have HW4 := Lib.hid hW4
        have HHH := Lib.hid hh
        have HMP4 := Lib.hid hmp4
        have HQ44 := Lib.hid q44
        have HK54 := Lib.hid k54
        have HH4 := Lib.hid hH4
        have HBF1 := Lib.hid hbf
        have HSC1 := Lib.hid hsc
        have HSCT1 := Lib.hid hsct
        have HA1 := Lib.hid ha
        have HA51 := Lib.hid hA5
        have HRR := Lib.hid hrr
        have HAF := Lib.hid haf
        have HBT := Lib.hid hbt
        have HAQ := Lib.hid hAq
        clear hn' hdl hzero hsn hh hmp4 q44 k54 hH4 hbf hsc hsct ha hA5 hrr haf hbt hAq hAq4 hk4 q43 hmp hmp3 k13 k33 k53 kb3 hk0W hk1W hk3W hkb hopW hBW hqa hq0 hH3 hb3 hk5
        subst hW4
        by_cases h1 : 0 < rr
        · by_cases h2 : af = a
          · by_cases h3 : bt = s
            · clear HW4
              subst h3
              have HKM : Hid ((s : Int) ∈ keysO s K) := Lib.hid (by simp [keysO])
              cases sn with
              | true =>
                gi_wp2_with fail
                exact HZ.out _ fun _ _ => HKM.out
              | false =>
                gi_wp2_with fail
                exact HZ.out _ fun _ _ => HKM.out
            · cases sn with
              | true =>
                have HKM : Hid (bt ∈ keysO s K) := Lib.hid (by unfold keysO; exact List.mem_cons_of_mem _ (HSN.out.1 rfl))
                clear HSN
                gi_wp2_with fail
                exact HZ.out _ fun _ _ => HKM.out
              | false =>
                have hbk : bt ∉ K.map Prod.fst := fun hm => by
                  have := HSN.out.2 hm
                  cases this
                have hbo : bt ∉ keysO s K := fun hm => by
                  rcases List.mem_cons.1 hm with e | e
                  · exact h3 e
                  · exact hbk e
                have hz4 := HH4.out.size
                obtain ⟨W5, hput, hmp5, hgr5, hsz5⟩ := run_put (P := Try.prog) (keyL_int Try.underlying3) Try.underlying111 HMP4.out bt (stepV (i, bb))
                rw [putK_mapL _ hbk] at hmp5
                have hH5 : Held [S + 2] (W3.alloc (.cells #[.int .i64 y.1, .bool y.2] 77)) W5 := (Held.refl _ _).grown2 hgr5 (fun g e => .inl (by injection e with e; simp [e]))
                have k55 := Blk.held hH5 HK54.out (by simp; omega)
                rw [HAQ.out] at k55
                have q45 := Fifo.held HQ44.out hH5 (fun g hg => by have := (HQ44.out.lt g hg).1; simp; omega)
                have hx6 : (W5.alloc (.cells #[.int .i64 bt] 3)).cell? ⟨W5.heap.size, 0, none⟩ = some (.int .i64 bt) := (Blk.new W5 3 #[.int .i64 bt]).cell 0
                have q46 : Fifo (W5.alloc (.cells #[.int .i64 bt] 3)) (S + 4) A9' cap' ((keysO s K).drop p) := q45.held ((Held.refl [] W5).alloc _) (by simp)
                obtain ⟨A7, cap7, W7, hrun, q47, hgr7, hA7⟩ := q46.push HDL.out (by rw [size_alloc', hsz5]; omega) bt ⟨W5.heap.size, 0, none⟩ 1 hx6 (by omega)
                have hblk : blkOf A9' = some gq := by rw [HAQ.out]; rfl
                rw [HAQ.out] at hrun
                rw [hblk] at hgr7 hA7
                have hqQ : gq ≠ Qb := fun e => by
                  obtain ⟨g', off', cur, hA', _, hbb, _⟩ := q46
                  have : g' = gq := (by rw [HAQ.out] at hA'; simpa using hA'.symm : g' = gq ∧ off' = offq).1
                  subst this
                  exact hbb.differ ((k55).alloc _) (by decide) e
                have k57 : Blk W7 Qb 30 #[.slice (some ⟨gq, offq, none⟩) n' cap'] := (k55.alloc _).grown hgr7 (fun e => hqQ (by injection e with e; exact e.symm))
                have hmp7 : MapB W7 (S + 2) kint (mapL (K ++ [(bt, (i, bb))])) := (hmp5.alloc _).grown hgr7 (fun e => by injection e with e; have := hgq.1; omega)
                have h7Q : ∀ g, blkOf A7 = some g → g ≠ Qb := fun g hg e => by
                  obtain ⟨g', off', cur, hA', _, hbb, _⟩ := q47
                  have : g' = g := by rw [hA'] at hg; simpa [blkOf] using hg
                  subst this
                  exact hbb.differ k57 (by decide) e
                have hH8 : Held [S + 2, Qb, gq] W (W7.setCell ⟨Qb, 0, none⟩ (.slice A7 (n' + 1) cap7)) := by
                  refine (((HH4.out.mono (ex' := [S + 2, Qb, gq]) (by simp)).grown2 hgr5 (fun g e => .inl (by injection e with e; simp [e]))).alloc _ |>.grown2 hgr7 (fun g e => .inl (by injection e with e; simp [e]))).setCell (p := ⟨Qb, 0, none⟩) (by simp) _
                have c55 := k55.cell 0
                have c57 := k57.cell 0
                have f57 := k57.frozen 0
                have HFIN : Hid (∀ act : Act, ownPostG wr.heap.size (fun _ _ => True) (WayIn S Qb g0 p l gs s a wr) (fun _ _ _ => False) (pre ++ [(i, bb)]) W .normal act (W7.setCell ⟨Qb, 0, none⟩ (.slice A7 (n' + 1) cap7))) := Lib.hid fun act => by
                  have hl0 := keysO_length s K
                  have hn' := HNP.out
                  have hbt' : stT l (i, bb) = bt := HBT.out.symm
                  refine ⟨KeepsFrom.held2 hH8 ?_, trivial, HHH.out.then hH8 ?_, K ++ [(bt, (i, bb))], A7, cap7, by rw [List.length_append]; omega, hmp7.setCell _ _, ?_, ?_, ?_, ?_, HSC1.out.snoc (by omega) _ _, (HSCT1.out.snoc _ _).next ?_, ?_⟩
                  · intro k hk hwk o ho
                    simp only [List.mem_cons, List.not_mem_nil, or_false] at hk
                    rcases hk with rfl | rfl | rfl
                    · omega
                    · omega
                    · exact HKW4.out.cells _ (by rw [HAQ.out]; rfl) o ho
                  · intro k hk hwk
                    simp only [List.mem_cons, List.not_mem_nil, or_false] at hk ⊢
                    rcases hk with rfl | rfl | rfl
                    · exact .inl rfl
                    · exact .inr (.inl rfl)
                    · rcases hgq0 with e | e
                      · exact .inr (.inr e)
                      · omega
                  · rw [List.length_append, List.length_singleton, show K.length + 1 + 1 - p = n' + 1 by omega]
                    exact k57.put 0 _
                  · rw [keysO_snoc, List.drop_append_of_le_length (by omega)]
                    exact q47.kept fun g hg => Below.heap_setCell _ _ _ g (h7Q g hg)
                  · intro g hg
                    rcases hA7 with e | e
                    · rw [e] at hg
                      injection hg with hg
                      rw [← hg]
                      exact hgq0
                    · have := e g hg
                      rw [size_alloc', hsz5] at this
                      right; omega
                  · rw [← hbt']
                    refine HBF1.out.snoc (x := (i, bb)) (by show i < _; omega) ?_ ?_ ?_
                    · show 0 < roomS _ _ _
                      rw [← HRR.out]; exact h1
                    · show fromS _ _ ∈ _
                      rw [← HAF.out, h2]
                      exact List.mem_of_getElem? HA1.out
                    · rw [hbt']; exact hbo
                  · intro _ _
                    rw [keysO_snoc, hbt']
                    simp
                  · rw [keysO_snoc, List.getElem?_append_left (by omega)]
                    exact HA1.out
                have HRUN := Lib.hid hrun
                clear hsz5 hz4 hrun hgr7 hA7 k57 hmp7 h7Q hH8 k55 q45 hx6 q46 q47 hmp5 hgr5 hH5 hbk hbo HSN
                gi_wp2_with (gi_at_builtin; go_must (refine wpListIn_append_run rfl (.tmp 69) (.tmp 71) 30 rfl _ _ _ _ rfl rfl HRUN.out ?_))
                exact HFIN.out _
          · clear HSN
            cases sn <;>
            · gi_wp2_with fail
              exact HZ.out _ fun _ e => absurd e h2
        · clear HSN
          cases sn <;>
          · gi_wp2_with fail
            exact HZ.out _ fun e => by omega
      case done =>
        rintro D W hD ⟨hh, K, A9', cap', hpK, hmp, hk5, hk4, hA5, hbf, hsc, hsct, ha⟩ hdef
        obtain ⟨n', hn'⟩ : ∃ n', n' = K.length + 1 - p := ⟨_, rfl⟩
        rw [← hn'] at hk5
        have hn0 : 0 < n' := by omega
        have hKN2 := keys_le hbf hin hs
        have hBW : Below S w W := HB.out.trans (hh.to (B := S) hzS (by
          intro k hk
          simp only [List.mem_cons, List.not_mem_nil, or_false] at hk
          rcases hk with rfl | rfl | rfl <;> omega))
        have hzW : wr.heap.size ≤ W.heap.size := hh.size
        have nS : ∀ k, k < S + 4 → k ≠ S + 2 → k ∉ [S + 2, Qb, g0] := fun k h1 h2 => by
          have := hg0.1
          simp only [List.mem_cons, List.not_mem_nil, or_false, not_or]
          omega
        have hk0W := Blk.held hh HK0.out (nS S (by omega) (by omega))
        have hk1W := Blk.held hh HK1.out (nS (S + 1) (by omega) (by omega))
        have hk3W := Blk.held hh HK3.out (nS (S + 3) (by omega) (by omega))
        have hmW : Marks S ({ target := .collected D, args := #[] } :: ds) W := by
          refine HM.out.cons rfl hD hzS (fun k hk hd => ?_) hdef
          refine (hh.block k hk (fun hm => ?_)).trans hd
          simp only [List.mem_cons, List.not_mem_nil, or_false] at hm
          rcases hm with rfl | rfl | rfl
          · exact HMP.out.noMark hd
          · exact HK5.out.noMark hd
          · have := HK4.out.cells _ (by rw [HA9.out]; rfl) _ hd
            cases this
        have hdl : ((keysO s K).drop p).length = n' := by rw [List.length_drop, keysO_length, hn']
        obtain ⟨gq, offq, hAq, -⟩ := hk4.cell (j := 0) (by omega)
        have hcap : n' ≤ cap' := by
          obtain ⟨_, _, _, _, _, _, _, h2, _⟩ := hk4
          omega
        have hpl : p < (keysO s K).length := by rw [keysO_length]; exact hpK
        have hdr : (keysO s K).drop p = a :: (keysO s K).drop (p + 1) := by
          rw [List.drop_eq_getElem_cons hpl]
          rw [List.getElem?_eq_getElem hpl] at ha
          injection ha with ha
          rw [ha]
        rw [hAq, hdr] at hk4
        have hpop := hk4.pop
        rw [hAq] at hk5
        have c9 := hk5.cell 0
        have hnx : Scd l gs s K (p + 1) := hsc.next ha (by rw [hl]; exact hsct)
        have HPOP := Lib.hid hpop
        have HNP := Lib.hid hn'
        have HMW := Lib.hid hmW
        have HNX := Lib.hid hnx
        have HBW := Lib.hid hBW
        have HBF1 := Lib.hid hbf
        have HMP1 := Lib.hid hmp
        have H0W := Lib.hid hk0W
        have H1W := Lib.hid hk1W
        have H3W := Lib.hid hk3W
        have hQW := hk5.lt
        clear hpop hn' hmW hnx hBW hbf hmp hk0W hk1W hk3W hk4 hk5 hdr hA5 hsc hsct ha hdef hdl hAq hh HK4
        have HPP := HPOP.out
        by_cases hc : cap' = 1
        · rw [if_pos hc, show cap' - 1 = 0 by omega] at HPP
          have HPOP := Lib.hid HPP
          clear HPP
          go_wp2_with fail
          have e0 := HNP.out
          refine HKQ.out _ _ _ ?_ ⟨W.heap.size, p + 1, 0, some ⟨gq, offq, none⟩, K, ?_, by omega, by omega, ?_, H0W.out.alloc _, H1W.out.alloc _, HMP1.out.alloc _, H3W.out.alloc _, ?_, ?_, HBF1.out, HNX.out, HMW.out.alloc _⟩ ?_
          · simp only [patch, slot, List.foldl_cons, List.foldl_nil, List.set_cons_succ, List.set_cons_zero, List.getD_cons_succ, List.getD_cons_zero]
          · simp only [slot, List.getD_cons_succ, List.getD_cons_zero]; try rfl
          · exact HBW.out.alloc (by omega) _
          · rw [show K.length + 1 - (p + 1) = n' - 1 by omega]
            exact Blk.new W _ _
          · exact HPOP.out.kept fun g hg => Below.heap_alloc _ _ _ (HPOP.out.lt g hg).2
          · simp only [slot, List.getD_cons_succ, List.getD_cons_zero]
            rw [HG9.out, qz_eq HK5.out HMP.out]
            refine Nat.lt_of_le_of_lt (Nat.le_of_eq (qz_eq (Blk.new W _ _) (HMP1.out.alloc _))) ?_
            have e1 : (mapL K).length = K.length := by simp [mapL]
            have e2 : ∀ K : List (Int × Stp), (mapL K).length = K.length := fun K => by simp [mapL]
            rw [e1, e2]
            have e3 := HNN.out
            omega
        · rw [if_neg hc] at HPP
          have HPOP := Lib.hid HPP
          clear HPP
          go_wp2_with fail
          have e0 := HNP.out
          refine HKQ.out _ _ _ ?_ ⟨W.heap.size, p + 1, cap' - 1, some ⟨gq, offq + 1, none⟩, K, ?_, by omega, by omega, ?_, H0W.out.alloc _, H1W.out.alloc _, HMP1.out.alloc _, H3W.out.alloc _, ?_, ?_, HBF1.out, HNX.out, HMW.out.alloc _⟩ ?_
          · simp only [patch, slot, List.foldl_cons, List.foldl_nil, List.set_cons_succ, List.set_cons_zero, List.getD_cons_succ, List.getD_cons_zero]
          · simp only [slot, List.getD_cons_succ, List.getD_cons_zero]; try rfl
          · exact HBW.out.alloc (by omega) _
          · rw [show K.length + 1 - (p + 1) = n' - 1 by omega]
            exact Blk.new W _ _
          · exact HPOP.out.kept fun g hg => Below.heap_alloc _ _ _ (HPOP.out.lt g hg).2
          · simp only [slot, List.getD_cons_succ, List.getD_cons_zero]
            rw [HG9.out, qz_eq HK5.out HMP.out]
            refine Nat.lt_of_le_of_lt (Nat.le_of_eq (qz_eq (Blk.new W _ _) (HMP1.out.alloc _))) ?_
            have e1 : (mapL K).length = K.length := by simp [mapL]
            have e2 : ∀ K : List (Int × Stp), (mapL K).length = K.length := fun K => by simp [mapL]
            rw [e1, e2]
            have e3 := HNN.out
            omega
    · obtain rfl : n = 0 := by omega
      go_wp2_with fail
      have hpe : p = (keysO s K).length := by have := HNN.out; rw [keysO_length]; omega
      have hall : Scd l gs s K (keysO s K).length := by rw [← hpe]; exact HSC.out
      have HALL := Lib.hid hall
      obtain ⟨T, hT⟩ : ∃ T, T = wr.heap.size := ⟨_, rfl⟩
      have hST : S + 5 < T := by rw [hT]; exact Nat.lt_of_le_of_lt hQb HK5.out.lt
      have HTT := Lib.hid hT
      have hmT := HMP.out.lt
      clear c9 c3 hpe hall HNN HSC hT hlt
      gi_wp2_with fail
      refine (wpIn_loop_marks (F := Fence.wide) (n := 9) [16, 17, 18, 19, 20, 21, 22, 23, 75, 76, 77, 78, 79, 80, 81, 82, 83, 84, 85, 86, 87, 88, 89, 90, 91, 92, 93, 94, 95, 96, 97, 98, 99, 100]
        (fun g ds2 wq => ds2 = ds ∧ ∃ (ws : List Stp) (at_ : Int) (A16 : Option Addr) (cap16 : Nat), g 16 = .slice A16 ws.length cap16 ∧ g 17 = .int .i64 (leastR l gs ws) ∧ g 18 = .int .i64 at_ ∧ Below T wr wq ∧ Own wq T 77 2 stepC A16 cap16 ws.reverse ∧ BackW l K at_ t ws ∧ (at_ ∈ keysO s K ∨ at_ = t) ∧ ws.length + rkO s K at_ ≤ N)
        (fun g _ => rkO s K (intOf (g 18))) ?same2 ⟨rfl, [], t, none, 0, ?s16, ?s17, ?s18, Below.refl _ _, Own.nil _ _ _ (fun _ => rfl), ⟨rfl, fun x hx => nomatch hx⟩, .inr rfl, ?rk0⟩ ?round2 (fun g g' w h => by simp only [h 18 (by simp)]) (by decide) 105 rfl (by decide))
      case same2 => simp only [patch, slot, List.foldl_cons, List.foldl_nil, List.set_cons_succ, List.set_cons_zero, List.getD_cons_succ, List.getD_cons_zero]
      case s16 => (simp only [slot, List.getD_cons_succ, List.getD_cons_zero]; try rfl)
      case s17 => (simp only [slot, List.getD_cons_succ, List.getD_cons_zero]; try rfl)
      case s18 => (simp only [slot, List.getD_cons_succ, List.getD_cons_zero]; try rfl)
      case rk0 =>
        have : rkO s K t ≤ (keysO s K).length := List.idxOf_le_length
        rw [keysO_length] at this
        simp only [List.length_nil, Nat.zero_add]
        omega
      case round2 =>
        rintro g16 ds2 wq Kq2 ⟨rfl, ws, at_, A16, cap16, h16, h17, h18, hbq, how, hbw, hat, hrk⟩ hKq2
        simp only [patch, List.foldl_cons, List.foldl_nil, List.set_cons_succ, List.set_cons_zero, h16, h17, h18]
        obtain ⟨k, hk⟩ : ∃ k, k = ws.length := ⟨_, rfl⟩
        obtain ⟨mu, hmu⟩ : ∃ mu, mu = leastR l gs ws := ⟨_, rfl⟩
        rw [← hk, ← hmu]
        have k1q := HK1.out.below hbq (by omega)
        have c1 := k1q.cell 0
        have hbS : Below S w wq := HB.out.trans (hbq.mono (by omega))
        have hTq : T ≤ wq.heap.size := by rw [HTT.out]; exact hbq.size
        have hmq : Marks S ds2 wq := HM.out.below hbq (by rw [HTT.out]; exact Nat.le_refl _)
        have hk3q := HK3.out.below hbq (by omega)
        have hmpq := HMP.out.below hbq (by rw [HTT.out]; exact hmT)
        have HKQ2 := Lib.hid hKq2
        have HKK := Lib.hid hk
        have HMU := Lib.hid hmu
        have HOW := Lib.hid how
        have HBW := Lib.hid hbw
        have HAT := Lib.hid hat
        have HRK := Lib.hid hrk
        have HBQ := Lib.hid hbq
        have HBS := Lib.hid hbS
        have HMQ := Lib.hid hmq
        have H16 := Lib.hid h16
        have H18 := Lib.hid h18
        clear hKq2 hk hmu how hbw hat hrk hbq hbS hmq h16 h17 h18
        by_cases hne : at_ = s
        · subst hne
          have hk0 : 0 < ws.length := by
            cases ws with
            | nil =>
              have : (s : Int) = t := HBW.out.1
              omega
            | cons x ws => simp
          obtain ⟨h, rfl, hTh, hhq⟩ := HOW.out.form_ (by rw [List.length_reverse]; exact hk0)
          obtain ⟨sz, hst⟩ := StpB.of_own HOW.out
          rw [List.length_reverse, ← HKK.out] at hst
          have hkN : k ≤ 1000 := by have := HRK.out; have := HKK.out; omega
          have HREV := Lib.hid (steps_Reverse h sz k cap16 _ wq hst (by omega))
          clear hst hmpq hk3q k1q HKQ2
          gi_wp2_with fail
          refine ⟨trivial, (wide_callI (n := 1) (HREV.out.mono ?_)).2.2⟩
          clear HREV
          rintro e W5 ⟨⟨v5, rfl⟩, hh5, hs5⟩
          have HH5 := Lib.hid hh5
          have HS5 : Hid (StpB W5 h sz k (fun i => ws.getD i (0, false))) := Lib.hid (hs5.of_eq fun i hi => by
            have hkk := HKK.out
            rw [List.getD_eq_getElem?_getD, List.getD_eq_getElem?_getD, List.getElem?_reverse (by omega), ← hkk]
            congr 2
            omega)
          have hm5 := hh5.marks HMQ.out (fun k hk => by
            simp only [List.mem_cons, List.not_mem_nil, or_false] at hk
            subst hk
            intro e
            have := HOW.out.isCells _ e
            cases this)
          have HM5 := Lib.hid hm5
          clear hh5 hs5 hm5
          gi_wp2_with fail
          refine bodyPostM_ret HM5.out fun w' hw' => ⟨.tuple #[.slice (some ⟨h, 0, none⟩) k cap16, .int .i64 mu], by simp [results, Try.results46, go_sem], ?_⟩
          refine ⟨by rw [← HS.out]; exact (HBS.out.trans (HH5.out.to (B := S) (by omega) (by simp; omega))).trans hw'.1, .inr ⟨h, sz, k, cap16, ws, K, by rw [HMU.out], HKK.out.symm, HS5.out.shut hw', by omega, HBF.out, HBW.out⟩⟩
        · have hnf : (at_ != (s : Int)) = true := by simpa using hne
          by_cases hbk : at_ ∈ K.map Prod.fst
          · obtain ⟨x, hxK, hgx⟩ := getK_mapL hbk
            obtain ⟨hx1, hx2, hx3, hx4, hx5⟩ := rk_ent HBF.out hxK
            have hlook := run_look (P := Try.prog) (keyL_int Try.underlying3) Try.underlying111 (z := stepV (0, false)) (fun u => by kernel_rfl) hmpq at_ true
            rw [hgx] at hlook
            obtain ⟨xi, xb⟩ := x
            have hopW : Opened (wq.alloc (.cells #[.int .i64 xi, .bool xb] 77)) S P N A m c (some ⟨g, 0, none⟩) cg l gs := HOP.out.below (HBS.out.alloc (by omega) _) hPS
            have hxm : xi < m := by rw [← hl]; exact hx1
            have hmb := hM (l.getD xi z4) (by rw [getD_at l xi (by omega)]; exact List.getElem_mem _)
            have hcb := hfl.cap.at_ (i := xi) (by omega)
            have HCALL := Lib.hid (flow_Room S P N A m c (some ⟨g, 0, none⟩) cg l gs xi xb _ hopW hxm (by omega) (by rw [size_alloc']; omega) (by rw [size_alloc']; omega) ⟨hcb.1, hcb.2, hmb.2⟩)
            obtain ⟨rr, hrr⟩ : ∃ rr, rr = roomS (l.getD xi z4) (gs.getD xi 0) xb := ⟨_, rfl⟩
            obtain ⟨af, haf⟩ : ∃ af, af = fromS (l.getD xi z4) xb := ⟨_, rfl⟩
            obtain ⟨bt, hbt⟩ : ∃ bt, bt = toS (l.getD xi z4) xb := ⟨_, rfl⟩
            rw [← hrr, ← haf, ← hbt] at HCALL
            have hkx := Blk.new wq 77 #[.int .i64 xi, .bool xb]
            have cx0 := hkx.cell 0
            have cx1 := hkx.cell 1
            have k0q := HK0.out.below HBQ.out (by omega)
            have c0 := (k0q.alloc (.cells #[.int .i64 xi, .bool xb] 77)).cell 0
            have c3 := hk3q.cell 0
            have HKX := Lib.hid hkx
            have HRR := Lib.hid hrr
            have HAF := Lib.hid haf
            have HBT := Lib.hid hbt
            have HX2 := Lib.hid hx2
            have HX3 := Lib.hid hx3
            have HX4 := Lib.hid hx4
            have HX5 := Lib.hid hx5
            have HXK := Lib.hid hxK
            have hkN : k ≤ 1000 := by have := HRK.out; have := HKK.out; omega
            have HKL : Hid (ws.reverse.length = k) := Lib.hid (by rw [List.length_reverse]; exact HKK.out.symm)
            clear hopW hrr haf hbt hkx hx2 hx3 hx4 hx5 hxK hmpq k0q hk3q hgx hbk hmb hcb
            gi_wp2_with fail
            refine ⟨trivial, (wide_callI (n := 1) (HCALL.out.mono ?_)).2.2⟩
            clear HCALL
            rintro e W3 ⟨rfl, hb3⟩
            have hcx3 := HKX.out.below hb3 (by rw [size_alloc']; omega)
            have cx3 := hcx3.cell 0
            have cx4 := hcx3.cell 1
            have hz3 := hb3.size
            rw [size_alloc'] at hz3
            have HO3 := Lib.hid ((HOW.out.alloc (.cells #[.int .i64 xi, .bool xb] 77)).below hb3 (Nat.le_refl _))
            have HB3 := Lib.hid ((HBQ.out.alloc hTq (.cells #[.int .i64 xi, .bool xb] 77)).trans (show Below T _ W3 from hb3.mono (by rw [size_alloc']; omega)))
            have HMQ3 := Lib.hid ((HMQ.out.alloc (.cells #[.int .i64 xi, .bool xb] 77)).below hb3 (Nat.le_refl _))
            have hTW3 : T ≤ W3.heap.size := by omega
            clear hb3 hcx3
            gi_wp2_with (gi_at_builtin; go_must (
              refine wpListIn_push rfl _ _ _ rfl T 2 77 (.agg #[.int .i64 0, .bool false]) 16 Try.underlying71 (by kernel_rfl) rfl (by omega) stepC W3 #[.int .i64 xi, .bool xb] A16 k cap16 ws.reverse HKL.out rfl HO3.out 1 [(xi, xb)] rfl rfl _ rfl rfl (by simp [Value.oneCell']) (by unfold maxLen; omega) (by omega) (by omega) ?_
              intro A5 cap5 w5 hown5 hgrow5 hloc5
              have HO5 := Lib.hid hown5
              have HG5 := Lib.hid hgrow5
              clear hown5 hgrow5 hloc5))
            all_goals
              have hmin : leastR l gs ((xi, xb) :: ws) = (if rr < mu then rr else mu) := by
                show (if stR l gs (xi, xb) < leastR l gs ws then stR l gs (xi, xb) else leastR l gs ws) = _
                rw [← HMU.out, show stR l gs (xi, xb) = rr from HRR.out.symm]
              have hsf : stF l (xi, xb) = af := HAF.out.symm
              refine HKQ2.out _ _ _ ?_ ⟨rfl, (xi, xb) :: ws, af, A5, cap5, ?_, ?_, ?_, ?_, ?_, ?_, ?_, ?_⟩ ?_
              · simp only [patch, slot, List.foldl_cons, List.foldl_nil, List.set_cons_succ, List.set_cons_zero, List.getD_cons_succ, List.getD_cons_zero]
              · simp only [slot, List.getD_cons_succ, List.getD_cons_zero, List.length_cons]
                rw [← HKK.out]
              · simp only [slot, List.getD_cons_succ, List.getD_cons_zero]
                rw [hmin]
                first | rw [if_pos (by omega)] | rw [if_neg (by omega)] | (congr 1; split <;> omega)
              · simp only [slot, List.getD_cons_succ, List.getD_cons_zero]; try rfl
              · exact (HB3.out.alloc hTW3 _).grown HG5.out (by rw [size_alloc']; omega) (fun g e => (HOW.out.lt g e).1)
              · rw [List.reverse_cons]; exact HO5.out
              · rw [← hsf]; exact HBW.out.step HXK.out HX3.out
              · rw [← hsf]; exact .inl HX4.out
              · have h1 := HX5.out
                have h2 := HRK.out
                rw [HX3.out, hsf] at h1
                rw [List.length_cons]
                omega
              · simp only [slot, List.getD_cons_succ, List.getD_cons_zero]
                have h1 := HX5.out
                rw [HX3.out, hsf] at h1
                rw [H18.out]
                simpa [intOf] using h1
          · have hto : at_ = t := by
              rcases HAT.out with e | e
              · rcases List.mem_cons.1 e with e | e
                · exact absurd e hne
                · exact absurd e hbk
              · exact e
            have hlook := run_look (P := Try.prog) (keyL_int Try.underlying3) Try.underlying111 (z := stepV (0, false)) (fun u => by kernel_rfl) hmpq at_ true
            rw [getK_mapL_none hbk] at hlook
            have hno : (t : Int) ∉ keysO s K := fun hm => by
              rw [hto] at hbk
              rcases List.mem_cons.1 hm with e | e
              · omega
              · exact hbk e
            obtain ⟨pp, hp1, hp2, hp3⟩ := no_way hfl hin hs HALL.out hno
            have HPP : Hid (∃ p : Int → Bool, p s = true ∧ p t = false ∧ capP p l = v) := Lib.hid ⟨pp, hp1, hp2, hp3⟩
            clear hto hno hp1 hp2 hp3 hbk
            have c3 := hk3q.cell 0
            gi_wp2_with fail
            refine bodyPostM_ret (HMQ.out.alloc _) fun w' hw' => ⟨.tuple #[.slice none 0 0, .int .i64 0], by simp [results, Try.results46, go_sem], ?_⟩
            refine ⟨?_, .inl ⟨rfl, HPP.out⟩⟩
            rw [← HS.out]
            exact (HBS.out.alloc (by omega) _).trans hw'.1
end Go.Proofs.Ytjkfogkpacmdlaa
