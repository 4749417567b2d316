/- As much as can go: the program's fill of a net. Conditions: the arcs are a net's, the two nodes differ. -/
import Derived.Test.YtjkfogkpacmdlaaFeeLeast35
import Derived.Test.YtjkfogkpacmdlaaFeeLeast19
namespace Go.Proofs.Ytjkfogkpacmdlaa
open Go.RowKit Go.Shelf

theorem push_ok {l : List Arc} {gs : List Int} {s t : Nat} {K : List (Int × Stp)} {ws : List Stp} (hc : CapOk l gs) (hK : BfsI l gs s K) (hw : BackW l K s t ws) (j : Nat) : CapOk l (pushL (leastR l gs ws) gs (ws.take j)) := by
  have hp : ∀ x ∈ ws, x.1 < l.length ∧ 0 < stR l gs x ∧ rkO s K (stF l x) < rkO s K (stT l x) := fun x hx => by
    obtain ⟨b, hb⟩ := hw.2 x hx
    obtain ⟨h1, h2, _, _, h5⟩ := rk_ent hK hb
    exact ⟨h1, h2, h5⟩
  have hpos := leastR_pos fun x hx => (hp x hx).2.1
  have hn := (arcs_nodup (rkO s K) ws s t hw.1 fun x hx => (hp x hx).2.2).1
  refine cap_push (by omega) _ gs hc ?_ fun x hx => ⟨(hp x (List.mem_of_mem_take hx)).1, leastR_le x (List.mem_of_mem_take hx)⟩
  rw [List.map_take]
  exact (List.take_sublist _ _).nodup hn
theorem way_short {l : List Arc} {gs : List Int} {s t : Nat} {K : List (Int × Stp)} {ws : List Stp} (hK : BfsI l gs s K) (hw : BackW l K s t ws) : ws.length ≤ l.length ∧ (∀ x ∈ ws, x.1 < l.length) ∧ 0 < leastR l gs ws ∧ leastR l gs ws ≤ 1048576 := by
  have hp : ∀ x ∈ ws, x.1 < l.length ∧ 0 < stR l gs x ∧ rkO s K (stF l x) < rkO s K (stT l x) := fun x hx => by
    obtain ⟨b, hb⟩ := hw.2 x hx
    obtain ⟨h1, h2, _, _, h5⟩ := rk_ent hK hb
    exact ⟨h1, h2, h5⟩
  have hn := (arcs_nodup (rkO s K) ws s t hw.1 fun x hx => (hp x hx).2.2).1
  have h1 := hn.length_le_of_subset (l₂ := List.range l.length) (fun i hi => by
    obtain ⟨x, hx, rfl⟩ := List.mem_map.1 hi
    exact List.mem_range.2 (hp x hx).1)
  rw [List.length_map, List.length_range] at h1
  exact ⟨h1, fun x hx => (hp x hx).1, leastR_pos fun x hx => (hp x hx).2.1⟩
theorem goes_made (w : World) (g m : Nat) (h : Blk w g 2 (madeCells #[.int .i64 0] m)) : GoesB w g (List.replicate m 0) := by
  have e : madeCells #[Value.int .i64 0] m = ((List.replicate m (0 : Int)).map (Value.int .i64)).toArray := by
    apply Array.toList_inj.1
    have := made_flat (fun x : Int => Value.int .i64 x) 0 m
    rw [this]
    simp [List.flatMap_replicate]
  unfold GoesB
  rw [← e]
  exact h
/-- What stands in the three slots as the fill goes on. -/
def FillR (N : Nat) (l : List Arc) (s t : Nat) (S P g : Nat) (A : Option Addr) (m c : Nat) (w : World) (s9 s10 s11 : Value) (wr : World) : Prop :=
  ∃ (gs : List Int) (v : Int), s9 = .int .i64 v ∧ 0 ≤ v ∧ (FlowV N l gs s t v ∧ FlowZ l gs s t) ∧ GoesB wr g gs ∧ Below S w wr ∧ Blk wr P 80 #[.int .i64 N, .slice A m c, .slice (some ⟨g, 0, none⟩) m m] ∧
    ((s10 = .slice none 0 0 ∧ s11 = .int .i64 0 ∧ ∃ p : Int → Bool, p s = true ∧ p t = false ∧ capP p l = v) ∨
     (∃ (h sz k ck : Nat) (ws : List Stp) (K : List (Int × Stp)), s10 = .slice (some ⟨h, 0, none⟩) k ck ∧ s11 = .int .i64 (leastR l gs ws) ∧ ws.length = k ∧ StpB wr h sz k (fun i => ws.getD i (0, false)) ∧ BfsI l gs s K ∧ BackW l K s t ws))
theorem FillR.of_way {N : Nat} {l : List Arc} {s t S P g : Nat} {A : Option Addr} {m c : Nat} {w W W' : World} {gs : List Int} {v : Int} {e : Ending} (h0 : 0 ≤ v) (hf : FlowV N l gs s t v ∧ FlowZ l gs s t) (hg : GoesB W g gs) (hb : Below S w W) (hS : S ≤ W.heap.size) (hk : Blk W P 80 #[.int .i64 N, .slice A m c, .slice (some ⟨g, 0, none⟩) m m]) (hr : WayR l gs s t v W e W') :
    ∃ s10 s11, e = .returned (.tuple #[s10, s11]) ∧ FillR N l s t S P g A m c w (.int .i64 v) s10 s11 W' := by
  obtain ⟨hbW, h⟩ := hr
  have h1 : GoesB W' g gs := Blk.below hg hbW (Blk.lt hg)
  have h2 := hb.trans (hbW.mono hS)
  have h3 := hk.below hbW hk.lt
  rcases h with ⟨rfl, hp⟩ | ⟨h, sz, k, ck, ws, K, rfl, hws, hst, _, hK, hw⟩
  · exact ⟨_, _, rfl, gs, v, rfl, h0, hf, h1, h2, h3, .inl ⟨rfl, rfl, hp⟩⟩
  · exact ⟨_, _, rfl, gs, v, rfl, h0, hf, h1, h2, h3, .inr ⟨h, sz, k, ck, ws, K, rfl, rfl, hws, hst, hK, hw⟩⟩
theorem netO_zero : ∀ (l : List Arc) (n : Nat) (j : Int), netO l (List.replicate n 0) j = 0
  | [], _, _ => by cases ‹Nat› <;> rfl
  | a :: l, 0, _ => rfl
  | a :: l, n + 1, j => by
    rw [List.replicate_succ]
    unfold netO
    rw [netO_zero l n j]
    split <;> split <;> rfl
theorem flow_zero {N : Nat} {l : List Arc} {s t m : Nat} (hl : l.length = m) (hM : ∀ a ∈ l, 0 ≤ a.m ∧ a.m ≤ 1048576) : FlowV N l (List.replicate m 0) s t 0 := by
  subst hl
  exact ⟨CapOk.zero fun a ha => (hM a ha).1, fun j _ _ _ => netO_zero _ _ _, netO_zero _ _ _⟩

set_option maxRecDepth 100000 in
set_option maxHeartbeats 2000000 in
theorem flow_FillZ (N m c : Nat) (A : Option Addr) (l : List Arc) (s t : Nat) (w : World) (hl : l.length = m) (hm : m ≤ 1000) (hN : N ≤ 1000) (hin : InN N l) (hs : s < N) (ht : t < N) (hst : s ≠ t) (hM : ∀ a ∈ l, 0 ≤ a.m ∧ a.m ≤ 1048576) (hr : Els w w.heap.size 4 Arc.cells A l) :
    Calls Try.prog 24 #[.agg #[.int .i64 N, .slice A m c], .int .i64 s, .int .i64 t] w fun e w' => ∃ (g : Nat) (gs : List Int) (v : Int), e = .returned (.tuple #[.int .i64 v, .slice (some ⟨g, 0, none⟩) m m]) ∧ Below w.heap.size w w' ∧ w.heap.size ≤ g ∧ GoesB w' g gs ∧ 0 ≤ v ∧ FlowV N l gs s t v ∧ FlowZ l gs s t ∧ ∃ p : Int → Bool, p s = true ∧ p t = false ∧ capP p l = v := by
  have HR := Lib.hid hr
  have HB0 := Lib.hid ((Below.refl w.heap.size w).alloc (Nat.le_refl _) (.cells #[.int .i64 N, .slice A m c] 39))
  have hk0 := Blk.new w 39 #[.int .i64 N, .slice A m c]
  have c0 := hk0.cell 0
  have c1 := hk0.cell 1
  have HOPEN := Lib.hid (flow_Open N A m c (w.alloc (.cells #[.int .i64 N, .slice A m c] 39)) (by omega))
  have hwayC : ∀ (P g : Nat) (gs : List Int) (v : Int) (W : World), Below w.heap.size w W → Blk W P 80 #[.int .i64 N, .slice A m c, .slice (some ⟨g, 0, none⟩) m m] → GoesB W g gs → FlowV N l gs s t v → Calls Try.prog 46 #[.pointer (some ⟨P, 0, none⟩), .int .i64 s, .int .i64 t] W (WayR l gs s t v W) := by
    intro P g gs v W hb hk hg hf
    have h1 : gs.length = m := by rw [hf.cap.len, hl]
    exact flow_way P N g w.heap.size m c m A l gs s t v W hk (hr.below hb) hb.size hg hl h1 hm hN hin hs ht hst hf hM
  have HWAY := Lib.hid hwayC
  clear hwayC
  have HZ := Lib.hid (flow_zero (N := N) (s := s) (t := t) hl hM)
  have hM0 : Hid (∀ a ∈ l, 0 ≤ a.m) := Lib.hid fun a ha => (hM a ha).1
  have HALL : Hid (allM l ≤ 1048576 * m) := Lib.hid (by rw [← hl]; exact allM_le fun a ha => (hM a ha).2)
  have HIN := Lib.hid hin
  have HM := Lib.hid hM
  have HL := Lib.hid hl
  have HST := Lib.hid hst
  have HSS := Lib.hid hs
  clear hr hk0 hM hin hl hst hs ht
  go_enter Try.func24, Try.ntmps24
  go_wp2_with fail
  refine HOPEN.out.mono ?_
  clear HOPEN
  rintro e W1 ⟨P, g, rfl, hb1, hP1, hg1, hgP, hkP, _, hkg⟩
  rw [size_alloc'] at hb1 hP1 hg1
  have HB1 := Lib.hid (HB0.out.trans (hb1.mono (by omega)))
  have HKP := Lib.hid hkP
  have HG := Lib.hid (goes_made W1 g m hkg)
  clear hb1 hkP hkg c0 c1 HB0
  go_wp2_with fail
  refine (HWAY.out P g _ 0 W1 HB1.out HKP.out HG.out HZ.out).mono ?_
  rintro e W2 hway
  obtain ⟨s10, s11, rfl, hfr⟩ := FillR.of_way (Int.le_refl 0) ⟨HZ.out, FlowZ.zero l m s t⟩ HG.out HB1.out HB1.out.size HKP.out hway
  have HF := Lib.hid hfr
  clear hway hfr HZ HG HB1 HKP
  go_wp2_with fail
  go_loopw [9, 10, 11] (fun s9 s10 s11 wr => FillR N l s t w.heap.size P g A m c w s9 s10 s11 wr) (fun s9 _ _ _ => (allM l - intOf s9).toNat)
  case atStart => exact HF.out
  case round =>
    clear HF
    rename World => wr
    obtain ⟨gs, v, rfl, h0, ⟨hf, hz⟩, hg, hb, hk, hc⟩ := hrel
    rcases hc with ⟨rfl, rfl, hp⟩ | ⟨h, sz, k, ck, ws, K, rfl, rfl, hws, hst, hK, hw⟩
    · have hnn : ∀ w, (binOp .neq 71 (.slice none 0 0) (.slice none 0 0)).run Try.prog w = .ok (.bool false) w := fun _ => by kernel_rfl
      have HP := Lib.hid hp
      have HFV := Lib.hid hf
      have HFZ := Lib.hid hz
      have HGG := Lib.hid hg
      have HBB := Lib.hid hb
      have k2 := hk.cell 2
      clear hp hf hz hg hb hk
      go_wp2_with fail
      go_quiet (fail)
      go_wp2_with fail
      refine bodyPost_ret (v := .tuple #[.int .i64 v, .slice (some ⟨g, 0, none⟩) m m]) (by simp [results, Try.results24, go_sem]) rfl ?_
      refine ⟨g, gs, v, rfl, ?_, by omega, ?_, h0, HFV.out, HFZ.out, HP.out⟩
      · exact below_drewN HBB.out _
      · exact HGG.out
    · have hnn : ∀ w, (binOp .neq 71 (.slice (some ⟨h, 0, none⟩) k ck) (.slice none 0 0)).run Try.prog w = .ok (.bool true) w := fun _ => by kernel_rfl
      have hz2 := back_z (leastR l gs ws) hz hK hw
      obtain ⟨hf2, hu0, _⟩ := back_push hf HST.out hK hw
      obtain ⟨hkm, hin, _, hu1⟩ := way_short hK hw
      have hbd : ∀ j, j ≤ k → ∀ i, i < m → 0 ≤ (pushL (leastR l gs ws) gs (ws.take j)).getD i 0 ∧ (pushL (leastR l gs ws) gs (ws.take j)).getD i 0 ≤ 1048576 := fun j _ i hi => by
        have hil : i < l.length := by rw [HL.out]; exact hi
        have h1 := (push_ok hf.cap hK hw j).at_ hil
        have h2 := (HM.out (l.getD i z4) (by rw [getD_at l i hil]; exact List.getElem_mem _)).2
        omega
      have hle := hf2.le_all HIN.out hM0.out HSS.out HST.out
      have hall := HALL.out
      have hPUSH := flow_Push P N g sz h k ck m c m A gs ws (leastR l gs ws) wr hk hg (by rw [hf.cap.len, HL.out]) hws hst (fun x hx => by rw [← HL.out]; exact hin x hx) hbd ⟨by omega, hu1⟩ (by rw [HL.out] at hkm; omega)
      have hPg : P ∉ [g] := by simpa using fun e => hgP e.symm
      have HPUSH := Lib.hid hPUSH
      have HBB := Lib.hid hb
      have HKK := Lib.hid hk
      have HF2 := Lib.hid hf2
      have HZ2 := Lib.hid hz2
      obtain ⟨u, hu⟩ : ∃ u, u = leastR l gs ws := ⟨_, rfl⟩
      rw [← hu] at HF2 HZ2 HPUSH hle hu0 hu1 ⊢
      have HLE : Hid (v + u ≤ allM l) := Lib.hid hle
      have hwv : IntKind.i64.wrap (v + u) = v + u := IntWalk.i64_in _ (by omega)
      obtain ⟨gs2, hgs2⟩ : ∃ gs2, gs2 = pushL u gs ws := ⟨_, rfl⟩
      rw [← hgs2] at HF2 HZ2 HPUSH
      clear hPUSH hb hk hf2 hz hz2 hst hbd hkm hin hK hw hf hg hle hall hu hgs2
      go_wp2_with fail
      refine HPUSH.out.mono ?_
      clear HPUSH
      rintro e W3 ⟨⟨v3, rfl⟩, hh3, hg3⟩
      have hb3 := HBB.out.trans (hh3.to (B := w.heap.size) HBB.out.size (by simp; omega))
      have hk3 := HKK.out.held hh3 hPg
      have HB3 := Lib.hid hb3
      have HK3 := Lib.hid hk3
      have HG3 := Lib.hid hg3
      clear hh3 hg3 hb3 hk3 hPg
      go_wp2_with fail
      refine (HWAY.out P g gs2 (v + u) W3 HB3.out HK3.out HG3.out HF2.out).mono ?_
      rintro e W4 hway
      obtain ⟨s10, s11, rfl, hfr⟩ := FillR.of_way (by omega) ⟨HF2.out, HZ2.out⟩ HG3.out HB3.out HB3.out.size HK3.out hway
      have HF := Lib.hid hfr
      clear hway hfr
      go_wp2_with fail
      go_roundw
      case rel => exact HF.out
      case measure => (have := HLE.out; simp [intOf]; omega)
theorem flow_Fill (N m c : Nat) (A : Option Addr) (l : List Arc) (s t : Nat) (w : World) (hl : l.length = m) (hm : m ≤ 1000) (hN : N ≤ 1000) (hin : InN N l) (hs : s < N) (ht : t < N) (hst : s ≠ t) (hM : ∀ a ∈ l, 0 ≤ a.m ∧ a.m ≤ 1048576) (hr : Els w w.heap.size 4 Arc.cells A l) :
    Calls Try.prog 24 #[.agg #[.int .i64 N, .slice A m c], .int .i64 s, .int .i64 t] w fun e w' => ∃ (g : Nat) (gs : List Int) (v : Int), e = .returned (.tuple #[.int .i64 v, .slice (some ⟨g, 0, none⟩) m m]) ∧ Below w.heap.size w w' ∧ w.heap.size ≤ g ∧ GoesB w' g gs ∧ 0 ≤ v ∧ FlowV N l gs s t v ∧ ∃ p : Int → Bool, p s = true ∧ p t = false ∧ capP p l = v :=
  (flow_FillZ N m c A l s t w hl hm hN hin hs ht hst hM hr).mono fun e w' ⟨g, gs, v, h1, h2, h3, h4, h5, h6, _, h8⟩ => ⟨g, gs, v, h1, h2, h3, h4, h5, h6, h8⟩
end Go.Proofs.Ytjkfogkpacmdlaa
