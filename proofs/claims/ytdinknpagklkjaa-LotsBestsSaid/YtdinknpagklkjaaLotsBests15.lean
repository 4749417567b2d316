/- As much as can go: the program's fill of a net. Conditions: the arcs are a net's, the two nodes differ. -/
import Derived.Test.YtdinknpagklkjaaLotsBests14
import Derived.Test.YtdinknpagklkjaaLotsBests11
import Derived.BigQuiet
import Derived.Test.YtdinknpagklkjaaLotsBests5
import Derived.Test.YtdinknpagklkjaaLotsBests3
namespace Go.Proofs.Ytdinknpagklkjaa
open Go.RowKit Go.Shelf

theorem push_ok {l : List Arc} {gs : List Int} {s t : Nat} {K : List (Int × Stp)} {ws : List Stp} (hc : CapOk l gs) (hK : BfsI l gs s K) (hw : BackW l K s t ws) (j : Nat) : CapOk l (pushL (leastR l gs ws) gs (ws.take j)) := by
  have hp : ∀ x ∈ ws, x.1 < l.length ∧ 0 < stR l gs x ∧ rkO s K (stF l x) < rkO s K (stT l x) := fun x hx => by
    obtain ⟨b, hb⟩ := hw.2 x hx
    obtain ⟨h1, h2, _, _, h5⟩ := rk_ent hK hb
    exact ⟨h1, h2, h5⟩
  have hpos := leastR_pos fun x hx => (hp x hx).2.1
  have hn := (arcs_nodup (rkO s K) ws s t hw.1 fun x hx => (hp x hx).2.2).1
  refine cap_push (by omega) _ gs hc ?_ fun x hx => ⟨(hp x (List.mem_of_mem_take hx)).1, leastR_le x (List.mem_of_mem_take hx)⟩
  rw [List.map_take]
  exact (List.take_sublist _ _).nodup hn
theorem way_short {l : List Arc} {gs : List Int} {s t : Nat} {K : List (Int × Stp)} {ws : List Stp} (hK : BfsI l gs s K) (hw : BackW l K s t ws) : ws.length ≤ l.length ∧ (∀ x ∈ ws, x.1 < l.length) ∧ 0 < leastR l gs ws ∧ leastR l gs ws ≤ 1048576 := by
  have hp : ∀ x ∈ ws, x.1 < l.length ∧ 0 < stR l gs x ∧ rkO s K (stF l x) < rkO s K (stT l x) := fun x hx => by
    obtain ⟨b, hb⟩ := hw.2 x hx
    obtain ⟨h1, h2, _, _, h5⟩ := rk_ent hK hb
    exact ⟨h1, h2, h5⟩
  have hn := (arcs_nodup (rkO s K) ws s t hw.1 fun x hx => (hp x hx).2.2).1
  have h1 := hn.length_le_of_subset (l₂ := List.range l.length) (fun i hi => by
    obtain ⟨x, hx, rfl⟩ := List.mem_map.1 hi
    exact List.mem_range.2 (hp x hx).1)
  rw [List.length_map, List.length_range] at h1
  exact ⟨h1, fun x hx => (hp x hx).1, leastR_pos fun x hx => (hp x hx).2.1⟩
theorem goes_made (w : World) (g m : Nat) (h : Blk w g 2 (madeCells #[.int .i64 0] m)) : GoesB w g (List.replicate m 0) := by
  have e : madeCells #[Value.int .i64 0] m = ((List.replicate m (0 : Int)).map (Value.int .i64)).toArray := by
    apply Array.toList_inj.1
    have := made_flat (fun x : Int => Value.int .i64 x) 0 m
    rw [this]
    simp [List.flatMap_replicate]
  unfold GoesB
  rw [← e]
  exact h
/-- What stands in the three slots as the fill goes on. -/
def FillR (N : Nat) (l : List Arc) (s t : Nat) (S P g : Nat) (A : Option Addr) (m c : Nat) (w : World) (s9 s10 s11 : Value) (wr : World) : Prop :=
  ∃ (gs : List Int) (v : Int), s9 = .int .i64 v ∧ 0 ≤ v ∧ FlowV N l gs s t v ∧ GoesB wr g gs ∧ Below S w wr ∧ Blk wr P 119 #[.int .i64 N, .slice A m c, .slice (some ⟨g, 0, none⟩) m m] ∧
    ((s10 = .slice none 0 0 ∧ s11 = .int .i64 0 ∧ ∃ p : Int → Bool, p s = true ∧ p t = false ∧ capP p l = v) ∨
     (∃ (h sz k ck : Nat) (ws : List Stp) (K : List (Int × Stp)), s10 = .slice (some ⟨h, 0, none⟩) k ck ∧ s11 = .int .i64 (leastR l gs ws) ∧ ws.length = k ∧ StpB wr h sz k (fun i => ws.getD i (0, false)) ∧ BfsI l gs s K ∧ BackW l K s t ws))
theorem FillR.of_way {N : Nat} {l : List Arc} {s t S P g : Nat} {A : Option Addr} {m c : Nat} {w W W' : World} {gs : List Int} {v : Int} {e : Ending} (h0 : 0 ≤ v) (hf : FlowV N l gs s t v) (hg : GoesB W g gs) (hb : Below S w W) (hS : S ≤ W.heap.size) (hk : Blk W P 119 #[.int .i64 N, .slice A m c, .slice (some ⟨g, 0, none⟩) m m]) (hr : WayR l gs s t v W e W') :
    ∃ s10 s11, e = .returned (.tuple #[s10, s11]) ∧ FillR N l s t S P g A m c w (.int .i64 v) s10 s11 W' := by
  obtain ⟨hbW, h⟩ := hr
  have h1 : GoesB W' g gs := Blk.below hg hbW (Blk.lt hg)
  have h2 := hb.trans (hbW.mono hS)
  have h3 := hk.below hbW hk.lt
  rcases h with ⟨rfl, hp⟩ | ⟨h, sz, k, ck, ws, K, rfl, hws, hst, _, hK, hw⟩
  · exact ⟨_, _, rfl, gs, v, rfl, h0, hf, h1, h2, h3, .inl ⟨rfl, rfl, hp⟩⟩
  · exact ⟨_, _, rfl, gs, v, rfl, h0, hf, h1, h2, h3, .inr ⟨h, sz, k, ck, ws, K, rfl, rfl, hws, hst, hK, hw⟩⟩
theorem netO_zero : ∀ (l : List Arc) (n : Nat) (j : Int), netO l (List.replicate n 0) j = 0
  | [], _, _ => by cases ‹Nat› <;> rfl
  | a :: l, 0, _ => rfl
  | a :: l, n + 1, j => by
    rw [List.replicate_succ]
    unfold netO
    rw [netO_zero l n j]
    split <;> split <;> rfl
theorem flow_zero {N : Nat} {l : List Arc} {s t m : Nat} (hl : l.length = m) (hM : ∀ a ∈ l, 0 ≤ a.m ∧ a.m ≤ 1048576) : FlowV N l (List.replicate m 0) s t 0 := by
  subst hl
  exact ⟨CapOk.zero fun a ha => (hM a ha).1, fun j _ _ _ => netO_zero _ _ _, netO_zero _ _ _⟩

set_option maxRecDepth 100000 in
set_option maxHeartbeats 2000000 in
theorem flow_Fill (N m c : Nat) (A : Option Addr) (l : List Arc) (s t : Nat) (w : World) (hl : l.length = m) (hm : m ≤ 1000) (hN : N ≤ 1000) (hin : InN N l) (hs : s < N) (ht : t < N) (hst : s ≠ t) (hM : ∀ a ∈ l, 0 ≤ a.m ∧ a.m ≤ 1048576) (hr : Els w w.heap.size 4 Arc.cells A l) :
    Calls Try.prog 51 #[.agg #[.int .i64 N, .slice A m c], .int .i64 s, .int .i64 t] w fun e w' => ∃ (g : Nat) (gs : List Int) (v : Int), e = .returned (.tuple #[.int .i64 v, .slice (some ⟨g, 0, none⟩) m m]) ∧ Below w.heap.size w w' ∧ w.heap.size ≤ g ∧ GoesB w' g gs ∧ 0 ≤ v ∧ FlowV N l gs s t v ∧ ∃ p : Int → Bool, p s = true ∧ p t = false ∧ capP p l = v := by
  have HR := Lib.hid hr
  have HB0 := Lib.hid ((Below.refl w.heap.size w).alloc (Nat.le_refl _) (.cells #[.int .i64 N, .slice A m c] 64))
  have hk0 := Blk.new w 64 #[.int .i64 N, .slice A m c]
  have c0 := hk0.cell 0
  have c1 := hk0.cell 1
  have HOPEN := Lib.hid (flow_Open N A m c (w.alloc (.cells #[.int .i64 N, .slice A m c] 64)) (by omega))
  have hwayC : ∀ (P g : Nat) (gs : List Int) (v : Int) (W : World), Below w.heap.size w W → Blk W P 119 #[.int .i64 N, .slice A m c, .slice (some ⟨g, 0, none⟩) m m] → GoesB W g gs → FlowV N l gs s t v → Calls Try.prog 94 #[.pointer (some ⟨P, 0, none⟩), .int .i64 s, .int .i64 t] W (WayR l gs s t v W) := by
    intro P g gs v W hb hk hg hf
    have h1 : gs.length = m := by rw [hf.cap.len, hl]
    exact flow_way P N g w.heap.size m c m A l gs s t v W hk (hr.below hb) hb.size hg hl h1 hm hN hin hs ht hst hf hM
  have HWAY := Lib.hid hwayC
  clear hwayC
  have HZ := Lib.hid (flow_zero (N := N) (s := s) (t := t) hl hM)
  have hM0 : Hid (∀ a ∈ l, 0 ≤ a.m) := Lib.hid fun a ha => (hM a ha).1
  have HALL : Hid (allM l ≤ 1048576 * m) := Lib.hid (by rw [← hl]; exact allM_le fun a ha => (hM a ha).2)
  have HIN := Lib.hid hin
  have HM := Lib.hid hM
  have HL := Lib.hid hl
  have HST := Lib.hid hst
  have HSS := Lib.hid hs
  clear hr hk0 hM hin hl hst hs ht
  go_enter Try.func51, Try.ntmps51
  go_wp2_with fail
  refine HOPEN.out.mono ?_
  clear HOPEN
  rintro e W1 ⟨P, g, rfl, hb1, hP1, hg1, hgP, hkP, _, hkg⟩
  rw [size_alloc'] at hb1 hP1 hg1
  have HB1 := Lib.hid (HB0.out.trans (hb1.mono (by omega)))
  have HKP := Lib.hid hkP
  have HG := Lib.hid (goes_made W1 g m hkg)
  clear hb1 hkP hkg c0 c1 HB0
  go_wp2_with fail
  refine (HWAY.out P g _ 0 W1 HB1.out HKP.out HG.out HZ.out).mono ?_
  rintro e W2 hway
  obtain ⟨s10, s11, rfl, hfr⟩ := FillR.of_way (Int.le_refl 0) HZ.out HG.out HB1.out HB1.out.size HKP.out hway
  have HF := Lib.hid hfr
  clear hway hfr HZ HG HB1 HKP
  go_wp2_with fail
  go_loopw [9, 10, 11] (fun s9 s10 s11 wr => FillR N l s t w.heap.size P g A m c w s9 s10 s11 wr) (fun s9 _ _ _ => (allM l - intOf s9).toNat)
  case atStart => exact HF.out
  case round =>
    clear HF
    rename World => wr
    obtain ⟨gs, v, rfl, h0, hf, hg, hb, hk, hc⟩ := hrel
    rcases hc with ⟨rfl, rfl, hp⟩ | ⟨h, sz, k, ck, ws, K, rfl, rfl, hws, hst, hK, hw⟩
    · have hnn : ∀ w, (binOp .neq 110 (.slice none 0 0) (.slice none 0 0)).run Try.prog w = .ok (.bool false) w := fun _ => by kernel_rfl
      have HP := Lib.hid hp
      have HFV := Lib.hid hf
      have HGG := Lib.hid hg
      have HBB := Lib.hid hb
      have k2 := hk.cell 2
      clear hp hf hg hb hk
      go_wp2_with fail
      go_quiet (fail)
      go_wp2_with fail
      refine bodyPost_ret (v := .tuple #[.int .i64 v, .slice (some ⟨g, 0, none⟩) m m]) (by simp [results, Try.results51, go_sem]) rfl ?_
      refine ⟨g, gs, v, rfl, ?_, by omega, ?_, h0, HFV.out, HP.out⟩
      · exact below_drewN HBB.out _
      · exact HGG.out
    · have hnn : ∀ w, (binOp .neq 110 (.slice (some ⟨h, 0, none⟩) k ck) (.slice none 0 0)).run Try.prog w = .ok (.bool true) w := fun _ => by kernel_rfl
      obtain ⟨hf2, hu0, _⟩ := back_push hf HST.out hK hw
      obtain ⟨hkm, hin, _, hu1⟩ := way_short hK hw
      have hbd : ∀ j, j ≤ k → ∀ i, i < m → 0 ≤ (pushL (leastR l gs ws) gs (ws.take j)).getD i 0 ∧ (pushL (leastR l gs ws) gs (ws.take j)).getD i 0 ≤ 1048576 := fun j _ i hi => by
        have hil : i < l.length := by rw [HL.out]; exact hi
        have h1 := (push_ok hf.cap hK hw j).at_ hil
        have h2 := (HM.out (l.getD i z4) (by rw [getD_at l i hil]; exact List.getElem_mem _)).2
        omega
      have hle := hf2.le_all HIN.out hM0.out HSS.out HST.out
      have hall := HALL.out
      have hPUSH := flow_Push P N g sz h k ck m c m A gs ws (leastR l gs ws) wr hk hg (by rw [hf.cap.len, HL.out]) hws hst (fun x hx => by rw [← HL.out]; exact hin x hx) hbd ⟨by omega, hu1⟩ (by rw [HL.out] at hkm; omega)
      have hPg : P ∉ [g] := by simpa using fun e => hgP e.symm
      have HPUSH := Lib.hid hPUSH
      have HBB := Lib.hid hb
      have HKK := Lib.hid hk
      have HF2 := Lib.hid hf2
      obtain ⟨u, hu⟩ : ∃ u, u = leastR l gs ws := ⟨_, rfl⟩
      rw [← hu] at HF2 HPUSH hle hu0 hu1 ⊢
      have HLE : Hid (v + u ≤ allM l) := Lib.hid hle
      have hwv : IntKind.i64.wrap (v + u) = v + u := IntWalk.i64_in _ (by omega)
      obtain ⟨gs2, hgs2⟩ : ∃ gs2, gs2 = pushL u gs ws := ⟨_, rfl⟩
      rw [← hgs2] at HF2 HPUSH
      clear hPUSH hb hk hf2 hst hbd hkm hin hK hw hf hg hle hall hu hgs2
      go_wp2_with fail
      refine HPUSH.out.mono ?_
      clear HPUSH
      rintro e W3 ⟨⟨v3, rfl⟩, hh3, hg3⟩
      have hb3 := HBB.out.trans (hh3.to (B := w.heap.size) HBB.out.size (by simp; omega))
      have hk3 := HKK.out.held hh3 hPg
      have HB3 := Lib.hid hb3
      have HK3 := Lib.hid hk3
      have HG3 := Lib.hid hg3
      clear hh3 hg3 hb3 hk3 hPg
      go_wp2_with fail
      refine (HWAY.out P g gs2 (v + u) W3 HB3.out HK3.out HG3.out HF2.out).mono ?_
      rintro e W4 hway
      obtain ⟨s10, s11, rfl, hfr⟩ := FillR.of_way (by omega) HF2.out HG3.out HB3.out HB3.out.size HK3.out hway
      have HF := Lib.hid hfr
      clear hway hfr
      go_wp2_with fail
      go_roundw
      case rel => exact HF.out
      case measure => (have := HLE.out; simp [intOf]; omega)
end Go.Proofs.Ytdinknpagklkjaa

/- How many tasks can have a place: the program's net and what goes through it. Conditions: the workers, the tasks, the room read as lists. -/
namespace Go.Proofs.Ytdinknpagklkjaa
open Go.RowKit

/-- While the net is made. -/
def NetW (S : Nat) (w : World) (l : List Arc) (N : Nat) (wr : World) : Prop :=
  Below S w wr ∧ ∃ A cap, Blk wr S 64 #[.int .i64 N, .slice A l.length cap] ∧ Own wr (S + 1) 70 4 Arc.cells A cap l

set_option maxRecDepth 100000 in
set_option maxHeartbeats 1000000 in
theorem place_many (A B C : Option Addr) (W cA M cB cR : Nat) (ws : List Wk) (ts : List (BitVec 32)) (room : List Int) (w : World) (hW : ws.length = W) (hW6 : W ≤ 6) (hM : ts.length = M) (hM12 : M ≤ 12) (hrl : room.length = W) (hrb : ∀ j, 0 ≤ room.getD j 0 ∧ room.getD j 0 ≤ 12)
    (hws : Els w w.heap.size 2 wkcell A ws) (hts : Els w w.heap.size 1 wcell B ts) (hro : Els w w.heap.size 1 icell C room) :
    Calls Try.prog 46 #[.slice A W cA, .slice B M cB, .slice C W cR] w fun e w' => e = .returned (.int .i64 (manyV ws ts room)) ∧ Below w.heap.size w w' ∧ 0 ≤ manyV ws ts room ∧ manyV ws ts room ≤ 1048576000 := by
  obtain ⟨S, hS⟩ : ∃ S, S = w.heap.size := ⟨_, rfl⟩
  obtain ⟨N, hN⟩ : ∃ N, N = W + M + 2 := ⟨_, rfl⟩
  have e1 : IntKind.i64.wrap ((W : Int) + M) = (W : Int) + M := IntWalk.i64_in _ (by omega)
  have e2 : IntKind.i64.wrap ((W : Int) + M + 2) = (N : Int) := by rw [IntWalk.i64_in _ (by omega), hN]; rfl
  have e3 : IntKind.i64.wrap ((N : Int) - 2) = ((W + M : Nat) : Int) := by rw [IntWalk.i64_in _ (by omega), hN]; omega
  have e4 : IntKind.i64.wrap ((N : Int) - 1) = ((W + M + 1 : Nat) : Int) := by rw [IntWalk.i64_in _ (by omega), hN]; omega
  have hk0 := Blk.new w 64 #[.int .i64 N, .slice none 0 0]
  have hb0 := (Below.refl w.heap.size w).alloc (Nat.le_refl _) (.cells #[.int .i64 N, .slice none 0 0] 64)
  rw [← hS] at hk0 hb0 hws hts hro
  have c0 := hk0.cell 0
  have HK0 := Lib.hid hk0
  have HB0 := Lib.hid hb0
  have HS := Lib.hid hS
  have HN := Lib.hid hN
  have HWS := Lib.hid hws
  have HTS := Lib.hid hts
  have HRO := Lib.hid hro
  have HW := Lib.hid hW
  have HM := Lib.hid hM
  have HRL := Lib.hid hrl
  have HRB := Lib.hid hrb
  clear hk0 hb0 hS hN hws hts hro hW hM hrl hrb
  go_enter Try.func46, Try.ntmps46
  go_wp2_with fail
  go_quiet (fail)
  go_wp2_with fail
  rw [← HS.out]
  go_loopw [34] (fun s34 wr => ∃ j : Nat, j ≤ W ∧ s34 = .int .i64 j ∧ NetW S w (wkArcs W M ws ts room j) N wr) (fun s34 _ => W - (intOf s34).toNat)
  case atStart => exact ⟨0, Nat.zero_le _, rfl, below_drewN HB0.out _, none, 0, HK0.out.drewN _, Own.nil _ _ _ (fun _ => rfl)⟩
  case round =>
    clear HK0 HB0 c0
    rename World => wr
    obtain ⟨j, hj, rfl, hb, A1, cap1, hk, ho⟩ := hrel
    by_cases hjW : j < W
    · obtain ⟨bw, ow, rfl, hbw, g0, g1⟩ := (HWS.out.below hb).at2 (k := j) (by rw [HW.out]; exact hjW)
      obtain ⟨br, orr, rfl, hbr, r0⟩ := (HRO.out.below hb).at1 (k := j) (by rw [HRL.out]; exact hjW)
      rw [← getD_at room j (by rw [HRL.out]; exact hjW) 0] at r0
      rw [← getD_at ws j (by rw [HW.out]; exact hjW) (0, w0)] at g0 g1
      obtain ⟨K, hK⟩ : ∃ K, K = wr.heap.size := ⟨_, rfl⟩
      obtain ⟨V, hV⟩ : ∃ V, V = wr.alloc (.cells #[.int .i64 (wk ws j).1, .int .u32 (wN (wk ws j).2)] 39) := ⟨_, rfl⟩
      have hSK : S < K := by rw [hK]; exact hk.lt
      have hkV : Blk V S 64 #[.int .i64 N, .slice A1 (wkArcs W M ws ts room j).length cap1] := by rw [hV]; exact hk.alloc _
      have hoV : Own V (S + 1) 70 4 Arc.cells A1 cap1 (wkArcs W M ws ts room j) := by rw [hV]; exact ho.alloc _
      have hbV : Below S w V := by rw [hV]; exact hb.alloc (by omega) _
      have hwV : Blk V K 39 #[.int .i64 (wk ws j).1, .int .u32 (wN (wk ws j).2)] := by rw [hV, hK]; exact Blk.new wr _ _
      have hlen := wkArcs_len W M ws ts room j
      have hl90 : (wkArcs W M ws ts room j).length ≤ 78 := by
        have : j * (M + 1) ≤ 6 * 13 := Nat.mul_le_mul (by omega) (by omega)
        omega
      have hzV : K < V.heap.size := hwV.lt
      have hrV : V.cell? ⟨br, orr + j, none⟩ = some (.int .i64 (room.getD j 0)) := by
        rw [hV]
        exact (((Below.refl wr.heap.size wr).alloc (Nat.le_refl _) _).cell (by show br < _; omega)).trans r0
      have HARC := Lib.hid (place_arc S (S + 1) N _ cap1 A1 _ j ((W : Int) + M + 1) (room.getD j 0) V rfl (by omega) (by omega) hkV hoV)
      have HBV := Lib.hid hbV
      have HWV := Lib.hid hwV
      have HVV := Lib.hid hV
      have HKK := Lib.hid hK
      have hkn : (wk ws j) = (ws.getD j (0, w0)) := rfl
      obtain ⟨kk, hkk⟩ : ∃ kk, kk = wk ws j := ⟨_, rfl⟩
      rw [← hkn, ← hkk] at g0 g1
      rw [← hkk] at HVV HWV
      have HKK2 := Lib.hid hkk
      have hrj := HRB.out j
      obtain ⟨rj, hrj2⟩ : ∃ rj, rj = room.getD j 0 := ⟨_, rfl⟩
      rw [← hrj2] at r0 hrV HARC hrj
      have HRJ := Lib.hid hrj2
      rw [HVV.out] at hrV
      clear hb hk ho hkV hoV hbV hwV hV hK hkn hkk hrj2 hlen
      go_wp2_with fail
      rw [← HVV.out, ← HKK.out]
      refine HARC.out.mono ?_
      clear HARC
      rintro e w2 ⟨⟨v2, rfl⟩, A2, cap2, hk2, ho2, hkp2⟩
      have hb2 := HBV.out.trans (hkp2.bel S (Nat.le_refl _) (Nat.le_succ _))
      have hw2 := hkp2.blk K _ _ HWV.out (by omega) (by decide)
      have HN2 : Hid (NetW S w (wkArcs W M ws ts room j ++ rowArcs W M ws ts room j 0) N w2) := Lib.hid (by
        refine ⟨hb2, A2, cap2, ?_, ?_⟩
        · unfold rowArcs
          rw [List.length_append]
          exact hk2
        · unfold rowArcs
          rw [← HRJ.out]
          exact ho2)
      have HW2 := Lib.hid hw2
      clear hb2 hw2 hk2 ho2 hkp2 HBV HWV HVV hrV
      go_wp2_with fail
      go_loopw [49] (fun s49 wq => ∃ i : Nat, i ≤ M ∧ s49 = .int .i64 i ∧ NetW S w (wkArcs W M ws ts room j ++ rowArcs W M ws ts room j i) N wq ∧ Blk wq K 39 #[.int .i64 kk.1, .int .u32 (wN kk.2)]) (fun s49 _ => M - (intOf s49).toNat)
      case atStart => exact ⟨0, Nat.zero_le _, rfl, HN2.out, HW2.out⟩
      case round =>
        clear HN2 HW2 g0 g1 r0
        rename World => wq
        obtain ⟨i, hi, rfl, ⟨hb, A3, cap3, hk, ho⟩, hkw⟩ := hrel
        by_cases hiM : i < M
        · obtain ⟨bt, ot, rfl, hbt, t0⟩ := (HTS.out.below hb).at1 (f := fun x => .int .u32 (wN x)) (k := i) (by rw [HM.out]; exact hiM)
          rw [← getD_at ts i (by rw [HM.out]; exact hiM) w0] at t0
          have d0 := hkw.cell 0
          have d1 := hkw.cell 1
          have htl : lw ts i = ts.getD i w0 := rfl
          rw [← htl] at t0
          obtain ⟨tk, htk⟩ : ∃ tk, tk = lw ts i := ⟨_, rfl⟩
          rw [← htk] at t0
          have hrs : rowArcs W M ws ts room j (i + 1) = rowArcs W M ws ts room j i ++ if mayW tk kk = true then [⟨(W : Int) + i, j, 1, 0⟩] else [] := by
            unfold rowArcs
            rw [taskArcs_succ, ← htk, ← HKK2.out]
            rfl
          have hlen1 := wkArcs_len W M ws ts room j
          have hlen2 := taskArcs_len W kk ts j i
          have hl91 : (wkArcs W M ws ts room j ++ rowArcs W M ws ts room j i).length ≤ 100 := by
            have : j * (M + 1) ≤ 6 * 13 := Nat.mul_le_mul (by omega) (by omega)
            unfold rowArcs
            rw [← HKK2.out, List.length_append, List.length_cons]
            omega
          have hMAY := plc_may kk tk wq
          obtain ⟨ll, hll⟩ : ∃ ll, ll = wkArcs W M ws ts room j ++ rowArcs W M ws ts room j i := ⟨_, rfl⟩
          rw [← hll] at hk ho hl91
          have hnx : wkArcs W M ws ts room j ++ rowArcs W M ws ts room j (i + 1) = ll ++ if mayW tk kk = true then [⟨(W : Int) + i, j, 1, 0⟩] else [] := by rw [hrs, hll, List.append_assoc]
          have hbx : Below S wq (wq.alloc (.cells #[.int .i64 kk.1, .int .u32 (wN kk.2)] 39)) := (Below.refl _ _).alloc (by have := hk.lt; omega) _
          have hbA := hb.trans hbx
          have hkA := hk.alloc (.cells #[.int .i64 kk.1, .int .u32 (wN kk.2)] 39)
          have hoA := ho.alloc (.cells #[.int .i64 kk.1, .int .u32 (wN kk.2)] 39)
          have hwA := hkw.alloc (.cells #[.int .i64 kk.1, .int .u32 (wN kk.2)] 39)
          have hzA : S + 1 ≤ (wq.alloc (.cells #[.int .i64 kk.1, .int .u32 (wN kk.2)] 39)).heap.size := by have := hkA.lt; omega
          have e5 : IntKind.i64.wrap ((W : Int) + i) = (W : Int) + i := IntWalk.i64_in _ (by omega)
          have HMAY := Lib.hid hMAY
          have HNX := Lib.hid hnx
          obtain ⟨VA, hVA⟩ : ∃ VA, VA = wq.alloc (.cells #[.int .i64 kk.1, .int .u32 (wN kk.2)] 39) := ⟨_, rfl⟩
          rw [← hVA] at hbA hkA hoA hwA hzA HMAY
          have HARC := Lib.hid (place_arc S (S + 1) N _ cap3 A3 ll ((W : Int) + i) j 1 VA rfl (by omega) hzA hkA hoA)
          have HBA := Lib.hid hbA
          have HKA := Lib.hid hkA
          have HOA := Lib.hid hoA
          have HWA := Lib.hid hwA
          clear hb hk ho hkw htl htk hrs hlen1 hlen2 hMAY hll hnx hbx hbA hkA hoA hwA hVA
          rcases Bool.eq_false_or_eq_true (mayW tk kk) with hmy | hmy
          · rw [hmy, if_pos rfl] at HNX
            rw [hmy] at HMAY
            clear hmy
            go_wp2_with fail
            refine HMAY.out.mono ?_
            rintro e w3 ⟨rfl, rfl⟩
            go_wp2_with fail
            refine HARC.out.mono ?_
            clear HARC HMAY
            rintro e w4 ⟨⟨v4, rfl⟩, A4, cap4, hk4, ho4, hkp4⟩
            have hb4 := HBA.out.trans (hkp4.bel S (Nat.le_refl _) (Nat.le_succ _))
            have hw4 := hkp4.blk K _ _ HWA.out (by omega) (by decide)
            have HN4 : Hid (NetW S w (wkArcs W M ws ts room j ++ rowArcs W M ws ts room j (i + 1)) N w4) := Lib.hid (by
              refine ⟨hb4, A4, cap4, ?_, ?_⟩
              · rw [HNX.out, List.length_append]
                exact hk4
              · rw [HNX.out]
                exact ho4)
            have HW4 := Lib.hid hw4
            clear hb4 hw4 hk4 ho4 hkp4
            go_wp2_with fail
            go_roundw
            case rel => exact ⟨i + 1, by omega, by go_num, HN4.out, HW4.out⟩
            case measure => simp [intOf]; omega
          · rw [hmy, if_neg (by simp), List.append_nil] at HNX
            rw [hmy] at HMAY
            clear hmy
            have HN4 : Hid (NetW S w (wkArcs W M ws ts room j ++ rowArcs W M ws ts room j (i + 1)) N VA) := Lib.hid (by
              refine ⟨HBA.out, A3, cap3, ?_, ?_⟩
              · rw [HNX.out]
                exact HKA.out
              · rw [HNX.out]
                exact HOA.out)
            clear HARC
            go_wp2_with fail
            refine HMAY.out.mono ?_
            rintro e w3 ⟨rfl, rfl⟩
            go_wp2_with fail
            go_roundw
            case rel => exact ⟨i + 1, by omega, by go_num, HN4.out, HWA.out⟩
            case measure => simp [intOf]; omega
        · obtain rfl : i = M := by omega
          have HN4 : Hid (NetW S w (wkArcs W i ws ts room (j + 1)) N wq) := Lib.hid (by rw [wkArcs_succ]; exact ⟨hb, A3, cap3, hk, ho⟩)
          clear hb hk ho hkw
          go_wp2_with fail
          go_roundw
          case rel => exact ⟨j + 1, by omega, by go_num, HN4.out⟩
          case measure => simp [intOf]; omega
    · obtain rfl : j = W := by omega
      have HN3 : Hid (NetW S w (wkArcs j M ws ts room j ++ srcArcs j M 0) N wr) := Lib.hid (by
        have e : srcArcs j M 0 = [] := rfl
        rw [e, List.append_nil]
        exact ⟨hb, A1, cap1, hk, ho⟩)
      clear hb hk ho
      go_wp2_with fail
      go_loopw [68] (fun s68 wq => ∃ i : Nat, i ≤ M ∧ s68 = .int .i64 i ∧ NetW S w (wkArcs j M ws ts room j ++ srcArcs j M i) N wq) (fun s68 _ => M - (intOf s68).toNat)
      case atStart => exact ⟨0, Nat.zero_le _, rfl, HN3.out⟩
      case round =>
        clear HN3
        rename World => wq
        obtain ⟨i, hi, rfl, hb, A3, cap3, hk, ho⟩ := hrel
        have hl91 : (wkArcs j M ws ts room j ++ srcArcs j M i).length ≤ 100 := by
          have hlen1 := wkArcs_len j M ws ts room j
          have : j * (M + 1) ≤ 6 * 13 := Nat.mul_le_mul (by omega) (by omega)
          rw [List.length_append, srcArcs_len]
          omega
        by_cases hiM : i < M
        · have e5 : IntKind.i64.wrap ((j : Int) + i) = (j : Int) + i := IntWalk.i64_in _ (by omega)
          have HARC := Lib.hid (place_arc S (S + 1) N _ cap3 A3 _ ((j : Int) + M) ((j : Int) + i) 1 wq rfl (by omega) (by have := hk.lt; omega) hk ho)
          have HB := Lib.hid hb
          clear hb hk ho hl91
          go_wp2_with fail
          refine HARC.out.mono ?_
          clear HARC
          rintro e w4 ⟨⟨v4, rfl⟩, A4, cap4, hk4, ho4, hkp4⟩
          have hb4 := HB.out.trans (hkp4.bel S (Nat.le_refl _) (Nat.le_succ _))
          have HN4 : Hid (NetW S w (wkArcs j M ws ts room j ++ srcArcs j M (i + 1)) N w4) := Lib.hid (by
            rw [srcArcs_succ, ← List.append_assoc]
            refine ⟨hb4, A4, cap4, ?_, ho4⟩
            rw [List.length_append]
            exact hk4)
          clear hb4 hk4 ho4 hkp4
          go_wp2_with fail
          go_roundw
          case rel => exact ⟨i + 1, by omega, by go_num, HN4.out⟩
          case measure => simp [intOf]; omega
        · obtain rfl : i = M := by omega
          have hnet : wkArcs j i ws ts room j ++ srcArcs j i i = netOf ws ts room := by
            unfold netOf
            rw [HW.out, HM.out]
          have hin := netOf_in ws ts room
          have hcap := netOf_cap (ws := ws) (ts := ts) HRB.out
          rw [HW.out, HM.out, ← HN.out] at hin
          rw [hnet] at hk ho hl91
          have k0 := hk.cell 0
          have k1 := hk.cell 1
          have HFILL := Lib.hid (flow_Fill N (netOf ws ts room).length cap3 A3 (netOf ws ts room) (j + i) (j + i + 1) wq rfl (by omega) (by have := HN.out; omega) hin (by have := HN.out; omega) (by have := HN.out; omega) (by omega) hcap ho.els)
          have HB := Lib.hid hb
          have HIN := Lib.hid hin
          have HCAP := Lib.hid hcap
          have HLEN := Lib.hid hl91
          have hSq : S ≤ wq.heap.size := by have := hk.lt; omega
          clear hb hk ho hl91 hnet hin hcap
          go_wp2_with fail
          refine HFILL.out.mono ?_
          clear HFILL
          rintro e w5 ⟨g, gs, v, rfl, hb5, hg5, hgo5, hv0, hf5, hp5⟩
          have hmx : manyV ws ts room = v := by
            unfold manyV
            have := HN.out
            rw [HW.out, HM.out, ← HN.out]
            exact maxV_is HIN.out (by omega) ⟨⟨gs, hf5⟩, hp5⟩
          have hvb : v ≤ 1048576000 := by
            obtain ⟨pp, _, _, h3⟩ := hp5
            have h4 := capP_le pp (fun a ha => (HCAP.out a ha).1)
            have h5 := allM_le (fun a ha => (HCAP.out a ha).2)
            have h6 := HLEN.out
            omega
          have HMX := Lib.hid hmx
          have HB5 := Lib.hid (HB.out.trans (hb5.mono hSq))
          clear hb5 hg5 hgo5 hf5 hp5 hmx
          go_wp2_with fail
          go_ret
          exact ⟨by rw [HMX.out]; rfl, by rw [← HS.out]; exact HB5.out, by rw [HMX.out]; exact hv0, by rw [HMX.out]; exact hvb⟩
end Go.Proofs.Ytdinknpagklkjaa

/- append to a slice that is cut to its length: a new row; the cut 's[:len(s):len(s)]'. Conditions: ints. -/
namespace Go.Proofs.Ytdinknpagklkjaa
open Go.RowKit Go.Shelf

theorem els_kept {α : Type} {f : α → List Value} {X Y : World} {row : Option Nat} {R : Option Addr} {l : List α} {c : Nat} (hf : ∀ a, (f a).length = c) (hc0 : 0 < c) (h : Els X X.heap.size c f R l) (hg : X.grownBy Y row) (hrow : ∀ r, row = some r → ∃ o : Obj, X.heap[r]? = some o ∧ o.isCells = false) : Els Y Y.heap.size c f R l := fun h0 => by
  obtain ⟨b, off, e, hb, hc⟩ := h h0
  have hne : some b ≠ row := fun he => by
    obtain ⟨o, ho, hcl⟩ := hrow b he.symm
    have hx := hc 0 l[0] (by rw [List.getElem?_eq_getElem h0]) 0 ((f l[0])[0]'(by rw [hf]; exact hc0)) (by rw [List.getElem?_eq_getElem])
    unfold World.cell? at hx
    simp only [ho] at hx
    cases o <;> first | (cases hcl; done) | (cases hx; done)
  refine ⟨b, off, e, Nat.lt_of_lt_of_le hb hg.size, fun k a ha j u hu => ?_⟩
  have := hc k a ha j u hu
  unfold World.cell? at this ⊢
  rw [hg.block b hb hne]
  exact this

theorem els_shut {α : Type} {f : α → List Value} {X Y : World} {B : Nat} {R : Option Addr} {l : List α} {c : Nat} (hf : ∀ a, (f a).length = c) (hc0 : 0 < c) (h : Els X X.heap.size c f R l) (hs : Shut B X Y) : Els Y Y.heap.size c f R l := fun h0 => by
  obtain ⟨b, off, e, hb, hc⟩ := h h0
  have hx := hc 0 l[0] (by rw [List.getElem?_eq_getElem h0]) 0 ((f l[0])[0]'(by rw [hf]; exact hc0)) (by rw [List.getElem?_eq_getElem])
  unfold World.cell? at hx
  cases ho : X.heap[b]? with
  | none => simp only [ho] at hx; cases hx
  | some o =>
    have hne : o ≠ Obj.deferred (some []) := fun he => by
      subst he
      simp only [ho] at hx
      cases hx
    have hy := hs.2 b o ho hne
    refine ⟨b, off, e, Nat.lt_of_lt_of_le hb hs.1.size, fun k a ha j u hu => ?_⟩
    have := hc k a ha j u hu
    unfold World.cell? at this ⊢
    rw [hy, ← ho]
    exact this
theorem els_far {w : World} {R : Option Addr} {l : List Int} {g : Nat} {t : TypeId} {sv : Value} (h : Els w w.heap.size 1 icell R l) (hk : Blk w g t #[sv]) (hne : ∀ z, sv ≠ .int .i64 z) (v : Value) : Els (w.setCell ⟨g, 0, none⟩ v) (w.setCell ⟨g, 0, none⟩ v).heap.size 1 icell R l := fun h0 => by
  obtain ⟨b, off, e, hb, hc⟩ := h h0
  have hbg : b ≠ g := by
    rintro rfl
    have hx := hc 0 l[0] (by rw [List.getElem?_eq_getElem h0]) 0 _ rfl
    rw [hk.cell] at hx
    rw [show off + 0 * 1 + 0 = off from by omega] at hx
    cases off with
    | zero => simp at hx; exact hne _ hx
    | succ o => simp at hx
  refine ⟨b, off, e, by simpa [World.setCell] using hb, fun k a ha j u hu => ?_⟩
  have := hc k a ha j u hu
  unfold World.cell? at this ⊢
  rw [Below.heap_setCell w ⟨g, 0, none⟩ v b hbg]
  exact this
theorem wp_append_run {P : Program} {o : Oper} {a : Act} {w : World} {K : Act → World → Prop} {Q : Exit → Act → World → Prop} (s x : Operand) (t : TypeId) (ho : o.op = .call { callee := .builtin .append, args := #[s, x], argTypes := #[t, t] })
    (vs vx : Value) (hs : a.eval s = vs) (hx : a.eval x = vx) (v' : Value) (w' : World) (hrun : (Builtin.append_ #[t, t] o.type #[vs, vx]).run P w = .ok v' w') (h : K (a.put o.dst v') w') : o.wp P a w K Q := by
  unfold Oper.wp execOp
  simp only [ho, resolve, invoke, builtin, Sem.run_bind, Sem.run_pure, Result.andThen_ok, List.map_toArray, List.map_cons, List.map_nil, hs, hx, hrun]
  exact h
theorem run_cut_full {P : Program} {t e : TypeId} (ht : P.underlying t = some (.slice e)) {s : Nat} (hs : ∀ w, (sizeOf e).run P w = .ok s w) (A : Option Addr) (m cap : Nat) (hm : m ≤ cap) (w : World) :
    (Instr.slice t (.slice A m cap) none (some (.int .i64 m)) (some (.int .i64 m))).run P w = .ok (.slice A m m) w := by
  have h1 : (0 : Int) ≤ (m : Int) ∧ (m : Int) ≤ (cap : Int) := by omega
  have h2 : (0 : Int) ≤ (m : Int) ∧ (m : Int) ≤ (m : Int) := by omega
  have ha : ∀ p : Addr, p.add 0 = p := fun p => by simp [Addr.add]
  have hA : (if m = 0 then A else A.map (·.add 0)) = A := by
    cases A <;> simp [ha]
  simp [Instr.slice, run_underlying ht, Instr.sliceBounds, Instr.sliceBound, asIntOf, hm, hs, Result.andThen]
  cases A <;> simp [ha]
theorem run_push_full {P : Program} {t ty e : TypeId} {i : TypeInfo} (ht : P.underlying t = some (.slice e)) (hi : P.info? e = some i) (hz : i.zero = some (.int .i64 0)) (hs1 : i.size = 1) (hby : i.bytes = 8)
    (A : Option Addr) (m : Nat) (l : List Int) (hl : l.length = m) (hm : m ≤ 64) (h0 : m = 0 → A = none) (w : World) (BA : Nat) (hr : Els w BA 1 icell A l) (S : Nat) (x : Int) (hx : w.cell? ⟨S, 0, none⟩ = some (.int .i64 x)) :
    ∃ (cap : Nat) (w' : World), (Builtin.append_ #[t, t] ty #[.slice A m m, .slice (some ⟨S, 0, none⟩) 1 1]).run P w = .ok (.slice (some ⟨w.heap.size, 0, none⟩) (m + 1) cap) w' ∧ m + 1 ≤ cap ∧ Below w.heap.size w w' ∧ w'.heap.size = w.heap.size + 1 ∧
      Els w' w'.heap.size 1 icell (some ⟨w.heap.size, 0, none⟩) (l ++ [x]) := by
  have fin : ∀ (w1 : World) (ys : Array Value), w1.heap.size = w.heap.size → (∀ (k : Nat) (a : Int), (l ++ [x])[k]? = some a → ys[k]? = some (Value.int .i64 a)) → Els (w1.alloc (.cells ys e)) (w1.alloc (.cells ys e)).heap.size 1 icell (some ⟨w.heap.size, 0, none⟩) (l ++ [x]) := by
    intro w1 ys hsz hys _
    refine ⟨w.heap.size, 0, rfl, by rw [size_alloc', hsz]; omega, fun k a ha j u hu => ?_⟩
    have hk := Blk.new w1 e ys
    rw [hsz] at hk
    cases j with
    | zero =>
      simp only [List.getElem?_cons_zero, Option.some.injEq] at hu
      subst hu
      have := hk.cell (k * 1)
      rw [show 0 + k * 1 + 0 = k * 1 from by omega, this, Nat.mul_one]
      exact hys k a ha
    | succ j => simp at hu
  have hcapB : ∀ need old bytes, need ≤ 65 → old < need → bytes = 8 → Builtin.nextslicecap need old * bytes ≤ 281474976710656 := fun need old bytes h1 h2 h3 => growslice_fits h2 (by subst h3; omega)
  have hnews : ∀ j v, [Value.int .i64 x][j]? = some v → w.cell? ((⟨S, 0, none⟩ : Addr).add j) = some v := fun j v hv => by
    cases j with
    | zero =>
      simp at hv
      subst hv
      rw [addr_add]
      exact hx
    | succ j => simp at hv
  have hb : ∀ o, Below w.heap.size w (w.drew.alloc o) := fun o => (Below.refl _ w).drew.alloc (Nat.le_refl _) o
  rcases Nat.eq_zero_or_pos m with hm0 | hmp
  · have hA := h0 hm0
    subst hA hm0
    have hln : l = [] := List.length_eq_zero_iff.1 hl
    subst hln
    refine ⟨_, _, run_append_nil w t ty e i _ ht hi hz ⟨S, 0, none⟩ 1 1 [.int .i64 x] (by rw [hs1]; rfl) hnews (by omega) (by omega) (by rw [hby]; omega), ?_, hb _, size_alloc' _ _, ?_⟩
    · exact grownCap_ge _ _ _ _
    · refine fin w.drew _ rfl fun k a ha => ?_
      cases k with
      | zero => simp at ha; subst ha; first | rfl | (rw [Array.getElem?_append_left (by simp)]; rfl)
      | succ k => simp at ha
  · obtain ⟨b, off, rfl, hbb, hc⟩ := hr (by omega)
    have holds : ∀ j v, (l.map fun a => Value.int .i64 a)[j]? = some v → w.cell? ((⟨b, off, none⟩ : Addr).add j) = some v := fun j v hv => by
      rw [List.getElem?_map] at hv
      cases hlj : l[j]? with
      | none => rw [hlj] at hv; cases hv
      | some a =>
        rw [hlj] at hv
        simp at hv
        subst hv
        have := hc j a hlj 0 _ rfl
        rw [addr_add]
        rwa [Nat.mul_one, Nat.add_zero] at this
    refine ⟨_, _, run_append_grow w t ty e i _ ht hi hz ⟨b, off, none⟩ m m (l.map fun a => Value.int .i64 a) (by rw [hs1, List.length_map, hl, Nat.mul_one]) holds ⟨S, 0, none⟩ 1 1 [.int .i64 x] (by rw [hs1]; rfl) hnews (by omega) (by omega) (by rw [hby]; exact hcapB _ _ _ (by omega) (by omega) rfl), ?_, hb _, size_alloc' _ _, ?_⟩
    · exact grownCap_ge _ _ _ _
    · refine fin w.drew _ rfl fun k a ha => ?_
      have hka : (l.map (fun a => Value.int .i64 a) ++ [Value.int .i64 x])[k]? = some (.int .i64 a) := by
        have := congrArg (Option.map fun a => Value.int .i64 a) ha
        rw [← List.getElem?_map] at this
        simpa using this
      rw [Array.getElem?_append_left (by
        have := (List.getElem?_eq_some_iff.1 ha).1
        simpa using this)]
      simpa using hka
end Go.Proofs.Ytdinknpagklkjaa

/- A slice's tail, as the model cuts it. Conditions: none. -/
namespace Go.Proofs.Ytdinknpagklkjaa
open Go.RowKit

theorem run_tail {P : Program} {t e : TypeId} (ht : P.underlying t = some (.slice e)) (hs : ∀ w, (sizeOf e).run P w = .ok 1 w) (A : Option Addr) (m cap k : Nat) (hk : k ≤ m) (hm : m ≤ cap) (hb : m < 2 ^ 62) (w : World) :
    (Instr.slice t (.slice A m cap) (some (.int .i64 (k : Int))) none none).run P w = .ok (.slice (if cap = k then A else A.map (·.add (k * 1))) (m - k) (cap - k)) w := by
  have h1 : (0 : Int) ≤ (k : Int) ∧ (k : Int) ≤ (m : Int) := by omega
  have h2 : (0 : Int) ≤ (m : Int) ∧ (m : Int) ≤ (cap : Int) := by omega
  simp [Instr.slice, run_underlying ht, Instr.sliceBounds, Instr.sliceBound, asIntOf, hk, hm, hs, Result.andThen]
  done
end Go.Proofs.Ytdinknpagklkjaa
