/- What goes costs: the reference. Conditions: the arcs and what goes read as lists. -/
import Derived.Test.YtjkfogkpacmdlaaFeeLeast37
import Derived.BigQuiet
namespace Go.Proofs.Ytjkfogkpacmdlaa
open Go.RowKit

theorem costF_snoc : ∀ (l : List Arc) (gs : List Int) (k : Nat), k < l.length → gs.length = l.length → costF (l.take (k + 1)) (gs.take (k + 1)) = costF (l.take k) (gs.take k) + gs.getD k 0 * (l.getD k z4).e
  | [], _, k, hk, _ => by simp at hk
  | a :: l, [], k, _, hl => by simp at hl
  | a :: l, g :: gs, 0, _, _ => by simp [costF]
  | a :: l, g :: gs, k + 1, hk, hl => by
    have := costF_snoc l gs k (by simpa using hk) (by simpa using hl)
    simp only [List.take_succ_cons, List.getD_cons_succ, costF] at this ⊢
    rw [this]
    omega
theorem CapOk.take : ∀ {l : List Arc} {gs : List Int} (k : Nat), CapOk l gs → CapOk (l.take k) (gs.take k)
  | _, _, 0, _ => by simp only [List.take_zero]; trivial
  | [], [], _ + 1, _ => trivial
  | a :: l, g :: gs, k + 1, h => ⟨h.1, CapOk.take k h.2⟩
  | [], g :: gs, _ + 1, h => h.elim
  | a :: l, [], _ + 1, h => h.elim
set_option maxRecDepth 100000 in
set_option maxHeartbeats 1000000 in
theorem ref_Costs (N m c cg : Nat) (A G : Option Addr) (l : List Arc) (gs : List Int) (w : World) (hl : l.length = m) (hok : NetOk N l) (hc : CapOk l gs) (hr : Els w w.heap.size 4 Arc.cells A l) (hg : Els w w.heap.size 1 icell G gs) :
    Calls Try.prog 16 #[.agg #[.int .i64 N, .slice A m c], .slice G m cg] w fun e w' => e = .returned (.int .i64 (costF l gs)) ∧ Below w.heap.size w w' := by
  have hm30 : m ≤ 30 := by rw [← hl]; exact hok.few
  have hb0 := (Below.refl w.heap.size w).alloc (Nat.le_refl _) (.cells #[.int .i64 N, .slice A m c] 39)
  have hk0 := Blk.new w 39 #[.int .i64 N, .slice A m c]
  have c1 := hk0.cell 1
  have HL := Lib.hid hl
  have HOK := Lib.hid hok
  have HC := Lib.hid hc
  have HR := Lib.hid hr
  have HG := Lib.hid hg
  have HB0 := Lib.hid hb0
  clear hl hok hc hr hg hb0 hk0
  go_enter Try.func16, Try.ntmps16
  go_wp2_with fail
  go_loopw [5, 11] (fun s5 s11 wr => ∃ k : Nat, k ≤ m ∧ s11 = .int .i64 k ∧ s5 = .int .i64 (costF (l.take k) (gs.take k)) ∧ Below w.heap.size w wr) (fun _ s11 _ => m - (intOf s11).toNat)
  case atStart => exact ⟨0, Nat.zero_le _, rfl, rfl, HB0.out⟩
  case round =>
    clear HB0 c1
    rename World => wr
    obtain ⟨k, hk, rfl, rfl, hb⟩ := hrel
    by_cases hlt : k < m
    · have hkl : k < l.length := by rw [HL.out]; exact hlt
      have hgl := HC.out.len
      have hkg : k < gs.length := by rw [hgl]; exact hkl
      obtain ⟨b0, off, rfl, hb0, g0, g1, g2, g3⟩ := (HR.out.below hb).at4 (f := fun a : Arc => .int .i64 a.f) (g := fun a : Arc => .int .i64 a.t) (p := fun a : Arc => .int .i64 a.m) (q := fun a : Arc => .int .i64 a.e) hkl
      obtain ⟨b1, off1, rfl, hb1, e0⟩ := (HG.out.below hb).at1 (f := fun x : Int => .int .i64 x) hkg
      have hsn := costF_snoc l gs k hkl hgl
      have hc1 := costF_le (N := N) (HC.out.take k) fun a ha => by
        obtain ⟨_, _, _, _, _, _, h2, h3, h4⟩ := HOK.out.arcs a (List.mem_of_mem_take ha)
        exact ⟨h2, h3, h4⟩
      have hc2 := costF_le (N := N) (HC.out.take (k + 1)) fun a ha => by
        obtain ⟨_, _, _, _, _, _, h2, h3, h4⟩ := HOK.out.arcs a (List.mem_of_mem_take ha)
        exact ⟨h2, h3, h4⟩
      have hl1 : (l.take k).length ≤ 30 := by rw [List.length_take, HL.out]; omega
      have hl2 : (l.take (k + 1)).length ≤ 30 := by rw [List.length_take, HL.out]; omega
      rw [← getD_at l k hkl z4] at g0 g1 g2 g3
      rw [← getD_at gs k hkg 0] at e0
      obtain ⟨⟨af, at_, am, ae⟩, ha⟩ : ∃ a, a = l.getD k z4 := ⟨_, rfl⟩
      obtain ⟨gk, hgk⟩ : ∃ x, x = gs.getD k 0 := ⟨_, rfl⟩
      rw [← ha] at g0 g1 g2 g3 hsn
      rw [← hgk] at e0 hsn
      simp only at g0 g1 g2 g3 hsn
      obtain ⟨x1, hx1⟩ : ∃ x, x = costF (l.take k) (gs.take k) := ⟨_, rfl⟩
      obtain ⟨x2, hx2⟩ : ∃ x, x = costF (l.take (k + 1)) (gs.take (k + 1)) := ⟨_, rfl⟩
      rw [← hx1] at hsn hc1 ⊢
      rw [← hx2] at hsn hc2
      have w1 : IntKind.i64.wrap (gk * ae) = gk * ae := IntWalk.i64_in _ (by omega)
      have w2 : IntKind.i64.wrap (x1 + gk * ae) = x2 := by rw [IntWalk.i64_in _ (by omega)]; exact hsn.symm
      have q0 : (wr.alloc (.cells #[.int .i64 af, .int .i64 at_, .int .i64 am, .int .i64 ae] 45)).cell? ⟨b1, off1 + k, none⟩ = some (.int .i64 gk) := (((Below.refl wr.heap.size wr).alloc (Nat.le_refl _) _).cell (by show b1 < _; have := hb.size; omega)).trans e0
      have q3 := (Blk.new wr 45 #[.int .i64 af, .int .i64 at_, .int .i64 am, .int .i64 ae]).cell 3
      have HB1 := Lib.hid (hb.alloc (by exact hb.size) (.cells #[.int .i64 af, .int .i64 at_, .int .i64 am, .int .i64 ae] 45))
      have HX2 := Lib.hid hx2
      clear hb hsn hc1 hc2 hl1 hl2 ha hgk hx1 hx2 hkl hkg hgl e0
      go_wp2_with fail
      go_quiet (fail)
      go_wp2_with fail
      go_roundw
      case rel => exact ⟨k + 1, by omega, by go_num, by rw [HX2.out], below_drewN HB1.out _⟩
      case measure => simp [intOf]; omega
    · obtain rfl : k = m := by omega
      have hfin : costF (l.take k) (gs.take k) = costF l gs := by rw [← HL.out, List.take_length, ← HC.out.len, List.take_length]
      rw [hfin]
      have HB := Lib.hid hb
      clear hb hfin
      go_wp2_with fail
      go_ret
      exact ⟨rfl, HB.out⟩
end Go.Proofs.Ytjkfogkpacmdlaa
