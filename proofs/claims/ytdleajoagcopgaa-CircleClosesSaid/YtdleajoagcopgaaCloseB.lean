/- Adding edges by degrees: the reference's way. Conditions: the edges read as a list and may be. -/
import Derived.Test.YtdleajoagcopgaaCloseA
import Derived.Test.YtdleajoagcopgaaNearR
import Derived.Test.YtdleajoagcopgaaSnoc
import Derived.Deep.RegionHeld3
import Derived.Deep.RegionLaw
import Derived.Lib.QuietBelow
import Derived.Deep.DeepCutAuto
namespace Go.Proofs.Ytdleajoagcopgaa
open Go.RowKit

/-- The edges at hand: those that came in, or some of the call's own. -/
def EdAt (w W : World) (A0 : Option Addr) (l0 : List Ed) (A' : Option Addr) (cap : Nat) (l' : List Ed) : Prop := (A' = A0 ∧ l' = l0) ∨ Own W (w.heap.size + 2) 46 3 Ed.cells A' cap l'
theorem EdAt.els {w W : World} {A0 A' : Option Addr} {l0 l' : List Ed} {cap : Nat} (h : EdAt w W A0 l0 A' cap l') (hr : Els w w.heap.size 3 Ed.cells A0 l0) (hb : Below w.heap.size w W) : Els W W.heap.size 3 Ed.cells A' l' := by
  rcases h with ⟨rfl, rfl⟩ | h
  · exact (hr.below hb).more hb.size
  · exact h.els
theorem EdAt.below {w W W' : World} {A0 A' : Option Addr} {l0 l' : List Ed} {cap : Nat} (h : EdAt w W A0 l0 A' cap l') (hb : Below W.heap.size W W') : EdAt w W' A0 l0 A' cap l' := by
  rcases h with h | h
  · exact .inl h
  · exact .inr (h.below hb (Nat.le_refl _))

theorem EdAt.src {w v W : World} {A0 A' : Option Addr} {l0 l' : List Ed} {cap : Nat} (h : EdAt w v A0 l0 A' cap l') (hr : Els w w.heap.size 3 Ed.cells A0 l0) (hb : Below w.heap.size w v) (hx : Wex v W) : Els W W.heap.size 3 Ed.cells A' l' :=
  EdAt.els (EdAt.below h (hx.bel (Below.refl _ _) (Nat.le_refl _))) hr (hx.bel hb hb.size)
theorem Own.none_at {w : World} {S B : Nat} (hS : w.heap.size = S) (hB : B ≤ S) : Own (w.alloc (.cells #[] 46)) B 46 3 Ed.cells (some ⟨S, 0, none⟩) 0 ([] : List Ed) :=
  (Own.empty_at hS 46 3 Ed.cells (fun _ => rfl)).weaken hB

theorem Wex.cell {v W : World} (h : Wex v W) {g : Nat} {t : TypeId} {cs : Array Value} (k : Blk v g t cs) (i : Nat) {u : Value} (hu : cs[i]? = some u) : W.cell? ⟨g, i, none⟩ = some u := by
  rw [← hu]
  exact (h.blk k).cell i

set_option maxRecDepth 100000 in
set_option maxHeartbeats 8000000 in
theorem ref_Close (N : Nat) (A : Option Addr) (n c : Nat) (l : List Ed) (w : World) (hl : l.length = n) (hg : GoodG N l) (hr : Els w w.heap.size 3 Ed.cells A l) :
    Calls Try.prog 7 #[.agg #[.int .i64 N, .slice A n c]] w fun e w' => ∃ (A2 : Option Addr) (n2 c2 : Nat) (R : List Ed), e = .returned (.agg #[.int .i64 N, .slice A2 n2 c2]) ∧ Below w.heap.size w w' ∧ Closes N l R ∧ R.length = n2 ∧ n2 ≤ 45 ∧ Els w' w'.heap.size 3 Ed.cells A2 R := by
  have HB0 := Lib.hid (((Below.refl w.heap.size w).alloc (Nat.le_refl _) (.cells #[.int .i64 N, .slice A n c] 24)).alloc (by simp) (.cells #[.int .i64 0, .slice none 0 0] 24))
  have hk0 := (Blk.new w 24 #[.int .i64 N, .slice A n c]).alloc (.cells #[.int .i64 0, .slice none 0 0] 24)
  have hk1 := Blk.new (w.alloc (.cells #[.int .i64 N, .slice A n c] 24)) 24 #[.int .i64 0, .slice none 0 0]
  rw [size_alloc'] at hk1
  have HK0 := Lib.hid hk0
  have HK1 := Lib.hid hk1
  have HL := Lib.hid hl
  have HG0 := Lib.hid hg
  have HR := Lib.hid hr
  have hN10 := hg.n10
  clear hk0 hk1 hl hg hr
  go_enter Try.func7, Try.ntmps7
  go_wp2_with fail
  go_loopw [3] (fun _ wr => ∃ (l' : List Ed) (A' : Option Addr) (cap m : Nat), l'.length = m ∧ GoodG N l' ∧ (∀ R, Closes N l' R → Closes N l R) ∧ Below w.heap.size w wr ∧ Blk wr w.heap.size 24 #[.int .i64 N, .slice A' m cap] ∧ Blk wr (w.heap.size + 1) 24 #[.int .i64 0, .slice none 0 0] ∧ EdAt w wr A l A' cap l') (fun _ wr => 46 - lenAt wr ⟨w.heap.size, 1, none⟩)
  case atStart => exact ⟨l, A, c, n, HL.out, HG0.out, fun R h => h, HB0.out, HK0.out, HK1.out, .inl ⟨rfl, rfl⟩⟩
  case round =>
    clear HB0 HK0 HK1 HG0 HL
    rename World => wr
    obtain ⟨l', A', cap, m, hm, hg, hcl, hb, hk0, hk1, hed⟩ := hrel
    have hm45 : m ≤ 45 := by have := hg.m45; omega
    have HM := Lib.hid hm
    have HG := Lib.hid hg
    have HCL := Lib.hid hcl
    have HLEN := Lib.hid (lenAt_is (w := wr) (p := ⟨w.heap.size, 1, none⟩) (A := A') (n := m) (c := cap) (hk0.cell 1))
    have HB := Lib.hid hb
    have HK0 := Lib.hid hk0
    have HK1 := Lib.hid hk1
    have HED := Lib.hid hed
    clear hm hg hcl hb hk0 hk1 hed
    go_wp2_with fail
    go_loopw [4, 3] (fun s4 s3 w3 => ∃ (k : Nat) (l2 : List Ed) (A2 : Option Addr) (cap2 m2 : Nat), k ≤ N ∧ s4 = .int .i64 k ∧ l2.length = m2 ∧ Below w.heap.size w w3 ∧ Blk w3 w.heap.size 24 #[.int .i64 N, .slice A2 m2 cap2] ∧ Blk w3 (w.heap.size + 1) 24 #[.int .i64 0, .slice none 0 0] ∧ EdAt w w3 A l A2 cap2 l2 ∧
      ((s3 = .bool false ∧ l2 = l' ∧ NoneTo N l' k (k + 1)) ∨ (s3 = .bool true ∧ GoodG N l2 ∧ ∃ a b, IsFirst N l' a b ∧ l2 = l' ++ [edOf a b]))) (fun s4 _ _ => N - (intOf s4).toNat)
    case atStart => exact ⟨0, l', A', cap, m, by omega, rfl, HM.out, HB.out, HK0.out, HK1.out, HED.out, .inl ⟨rfl, rfl, NoneTo.start _ _⟩⟩
    case round =>
      clear HB HK0 HK1 HED
      rename World => w3
      obtain ⟨k, l2, A2, cap2, m2, hk, rfl, hm2, hb, hk0, hk1, hed, hor⟩ := hrel
      have HM2 := Lib.hid hm2
      have HB := Lib.hid hb
      have HK0 := Lib.hid hk0
      have HK1 := Lib.hid hk1
      have HED := Lib.hid hed
      have c0 := hk0.cell 0
      clear hm2 hb hk0 hk1 hed
      rcases hor with ⟨rfl, rfl, hno⟩ | ⟨rfl, hg2, a, b, hif, hl2⟩
      · have HNO := Lib.hid hno
        clear hno
        by_cases hlt : k < N
        · go_wp2_with fail
          clear c0
          go_loopw [5, 3] (fun s5 s3 w4 => ∃ (b : Nat) (l3 : List Ed) (A3 : Option Addr) (cap3 m3 : Nat), k + 1 ≤ b ∧ b ≤ N ∧ s5 = .int .i64 b ∧ l3.length = m3 ∧ Below w.heap.size w w4 ∧ Blk w4 w.heap.size 24 #[.int .i64 N, .slice A3 m3 cap3] ∧ Blk w4 (w.heap.size + 1) 24 #[.int .i64 0, .slice none 0 0] ∧ EdAt w w4 A l A3 cap3 l3 ∧
            ((s3 = .bool false ∧ l3 = l2 ∧ NoneTo N l2 k b) ∨ (s3 = .bool true ∧ GoodG N l3 ∧ ∃ a b, IsFirst N l2 a b ∧ l3 = l2 ++ [edOf a b]))) (fun s5 _ _ => N - (intOf s5).toNat)
          case atStart => exact ⟨k + 1, l2, A2, cap2, m2, by omega, by omega, by go_num, HM2.out, HB.out, HK0.out, HK1.out, HED.out, .inl ⟨rfl, rfl, HNO.out⟩⟩
          case round =>
            clear HB HK0 HK1 HED HNO HM2
            rename World => w4
            obtain ⟨b, l3, A3, cap3, m3, hkb, hbN, rfl, hm3, hb, hk0, hk1, hed, hor⟩ := hrel
            have hz := hb.size
            have hzk := hk1.lt
            have HM3 := Lib.hid hm3
            have HB := Lib.hid hb
            have HK0 := Lib.hid hk0
            have HK1 := Lib.hid hk1
            have HED := Lib.hid hed
            have c0 := hk0.cell 0
            clear hm3 hb hk0 hk1 hed
            rcases hor with ⟨rfl, rfl, hno⟩ | ⟨rfl, hg3, a, b', hif, hl3⟩
            · have HNO := Lib.hid hno
              clear hno
              by_cases hlt2 : b < N
              · have HEE : Hid (∀ v : World, Below w4.heap.size w4 v → Els v v.heap.size 3 Ed.cells A3 l3) := Lib.hid (fun v hv => (HED.out.below hv).els HR.out (HB.out.trans (hv.mono hz)))
                have HNR : Hid (∀ v : World, Below w4.heap.size w4 v → Calls Try.prog 18 #[.agg #[.int .i64 N, .slice A3 m3 cap3], .int .i64 k, .int .i64 b] v fun e w' => e = .returned (.bool (adj l3 k b)) ∧ Below v.heap.size v w') := Lib.hid (fun v hv => ref_Near N k b A3 m3 cap3 l3 v HM3.out (by have := HG.out.m45; have := HM3.out; omega) (HEE.out v hv))
                have HDK : Hid (∀ v : World, Below w4.heap.size w4 v → Calls Try.prog 19 #[.agg #[.int .i64 N, .slice A3 m3 cap3], .int .i64 k] v fun e w' => e = .returned (.int .i64 (deg l3 k)) ∧ Below v.heap.size v w') := Lib.hid (fun v hv => ref_Degree N k A3 m3 cap3 l3 v HM3.out (by have := HG.out.m45; have := HM3.out; omega) (HEE.out v hv))
                have HDB : Hid (∀ v : World, Below w4.heap.size w4 v → Calls Try.prog 19 #[.agg #[.int .i64 N, .slice A3 m3 cap3], .int .i64 b] v fun e w' => e = .returned (.int .i64 (deg l3 b)) ∧ Below v.heap.size v w') := Lib.hid (fun v hv => ref_Degree N b A3 m3 cap3 l3 v HM3.out (by have := HG.out.m45; have := HM3.out; omega) (HEE.out v hv))
                have hokp : okP N l3 k b = (!adj l3 k b && decide (N ≤ deg l3 k + deg l3 b)) := rfl
                have HOKP := Lib.hid hokp
                have hd1 := deg_le l3 k
                have hd2 := deg_le l3 b
                have hm345 : l3.length ≤ 45 := by have := HG.out.m45; omega
                have HADJ := Lib.hid (fun h : adj l3 k b = false => good_snoc HG.out (show k < b by omega) hlt2 h)
                obtain ⟨dk, hdk⟩ : ∃ x, x = deg l3 k := ⟨_, rfl⟩
                obtain ⟨db, hdb⟩ : ∃ x, x = deg l3 b := ⟨_, rfl⟩
                rw [← hdk] at HDK HOKP hd1
                rw [← hdb] at HDB HOKP hd2
                have hw : IntKind.i64.wrap ((dk : Int) + (db : Int)) = (dk : Int) + (db : Int) := IntWalk.i64_in _ (by omega)
                have hx0 : w.heap.size < w4.heap.size := by omega
                have c1 := HK0.out.cell 1
                obtain ⟨ad, had⟩ : ∃ ad, ad = adj l3 k b := ⟨_, rfl⟩
                rw [← had] at HNR HOKP HADJ
                have g0 : ∀ d os, (Go.Sort.grow (redrawn w4 d) os).cell? ⟨w.heap.size, 0, none⟩ = some (.int .i64 N) := fun d os => cell_regrown c0 d os
                have g1 : ∀ d os, (Go.Sort.grow (redrawn w4 d) os).cell? ⟨w.heap.size, 1, none⟩ = some (.slice A3 m3 cap3) := fun d os => cell_regrown c1 d os
                clear hdk hdb hokp
                have HQN : Hid (∀ d os, Calls Try.prog 18 #[.agg #[.int .i64 N, .slice A3 m3 cap3], .int .i64 k, .int .i64 b] (Go.Sort.grow (redrawn w4 d) os) fun e w'' => e = .returned (.bool ad) ∧ ∃ p : Regrown, w'' = Go.Sort.grow (redrawn w4 p.d) p.os) := Lib.hid (fun d os => Calls.regrown_of (HNR.out _ (below_regrown w4 d os)))
                have HQK : Hid (∀ d os, Calls Try.prog 19 #[.agg #[.int .i64 N, .slice A3 m3 cap3], .int .i64 k] (Go.Sort.grow (redrawn w4 d) os) fun e w'' => e = .returned (.int .i64 dk) ∧ ∃ p : Regrown, w'' = Go.Sort.grow (redrawn w4 p.d) p.os) := Lib.hid (fun d os => Calls.regrown_of (HDK.out _ (below_regrown w4 d os)))
                have HQB : Hid (∀ d os, Calls Try.prog 19 #[.agg #[.int .i64 N, .slice A3 m3 cap3], .int .i64 b] (Go.Sort.grow (redrawn w4 d) os) fun e w'' => e = .returned (.int .i64 db) ∧ ∃ p : Regrown, w'' = Go.Sort.grow (redrawn w4 p.d) p.os) := Lib.hid (fun d os => Calls.regrown_of (HDB.out _ (below_regrown w4 d os)))
                clear had HNR HDK HDB HEE
                go_wp2_with fail
                cases ad with
                | true =>
                  have HN2 : Hid (okP N l3 k b = false) := Lib.hid (by rw [HOKP.out]; rfl)
                  refine wp_region_quiet_below (by kernel_rfl) (by kernel_rfl) ?_
                  repeat (go_big_quiet_step (first | (go_at_call 18; have h := HQN.out; with_reducible exact h _ _) | (go_at_call 19; have h := HQK.out; with_reducible exact h _ _) | (go_at_call 19; have h := HQB.out; with_reducible exact h _ _)))
                  refine wpQuiet_nil ?_
                  intro w5 hw5
                  obtain ⟨p, hw5'⟩ := hw5
                  have hb5 := below_regrown w4 p.d p.os
                  rw [← hw5'] at hb5
                  have HB5 := Lib.hid (HB.out.trans (hb5.mono hz))
                  have HK05 := Lib.hid (HK0.out.below hb5 HK0.out.lt)
                  have HK15 := Lib.hid (HK1.out.below hb5 HK1.out.lt)
                  have HED5 := Lib.hid (HED.out.below hb5)
                  clear hw5' hb5 g0 g1 c0 c1 hw HQN HQK HQB HB HK0 HK1 HED
                  go_wp2_with fail
                  go_roundw
                  case rel => exact ⟨b + 1, l3, A3, cap3, m3, by omega, by omega, by go_num, HM3.out, HB5.out, HK05.out, HK15.out, HED5.out, .inl ⟨rfl, rfl, HNO.out.next HN2.out⟩⟩
                  case measure => simp [intOf]; omega
                | false =>
                  by_cases hsum : N ≤ dk + db
                  · have HN2 : Hid (okP N l3 k b = true) := Lib.hid (by rw [HOKP.out]; simp [hsum])
                    have HG3 := Lib.hid (HADJ.out rfl)
                    refine wp_region_quiet_below (by kernel_rfl) (by kernel_rfl) ?_
                    repeat (go_big_quiet_step (first | (go_at_call 18; have h := HQN.out; with_reducible exact h _ _) | (go_at_call 19; have h := HQK.out; with_reducible exact h _ _) | (go_at_call 19; have h := HQB.out; with_reducible exact h _ _)))
                    refine wpQuiet_nil ?_
                    intro w5 hw5
                    obtain ⟨p, hw5'⟩ := hw5
                    have hb5 := below_regrown w4 p.d p.os
                    rw [← hw5'] at hb5
                    have HB5 := Lib.hid (HB.out.trans (hb5.mono hz))
                    have HK05 := Lib.hid (HK0.out.below hb5 HK0.out.lt)
                    have HK15 := Lib.hid (HK1.out.below hb5 HK1.out.lt)
                    have HED5 := Lib.hid (HED.out.below hb5)
                    clear hw5' hb5 g0 g1 c0 c1 hw HQN HQK HQB HB HK0 HK1 HED
                    go_wp2_with fail
                    have hz5 := HB5.out.size
                    have hzk5 := HK15.out.lt
                    have k05 := HK05.out.cell 0
                    have k15 := HK05.out.cell 1
                    have hm3n : m3 ≤ 45 := by have := HM3.out; omega
                    have k05a := fun o => Wex.cell (.alloc o (.refl (v := w5))) HK05.out 0 rfl
                    have k15a := fun o => Wex.cell (.alloc o (.refl (v := w5))) HK05.out 1 rfl
                    have k05b := fun o o' => Wex.cell (.alloc o' (.alloc o (.refl (v := w5)))) HK05.out 0 rfl
                    have k15b := fun o o' => Wex.cell (.alloc o' (.alloc o (.refl (v := w5)))) HK05.out 1 rfl
                    go_region_law ((first
                      | (
                        refine step_append_els (by rfl) (.tmp 47) (.tmp 49) 22 (by rfl) (w.heap.size + 2) 3 46 (.agg #[.int .i64 0, .int .i64 0, .int .i64 0]) 24 Try.underlying22 (by kernel_rfl) (by rfl) (by omega) Ed.cells _ _ 0 0 [] (by rfl) (by rfl) (by repeat (first | ((with_reducible refine Own.none_at ?_ ?_) <;> (first | with_reducible rfl | (simp; done) | omega)) | with_reducible apply Own.alloc | with_reducible apply Own.drew | with_reducible apply Own.drewN)) A3 m3 cap3 l3 HM3.out (by rfl) _ (EdAt.src HED5.out HR.out HB5.out (by repeat (first | with_reducible exact Wex.refl | with_reducible apply Wex.alloc | with_reducible apply Wex.drew | with_reducible apply Wex.drewN))) (one_flat (fun a u hu => by simp at hu; rcases hu with rfl | rfl | rfl <;> rfl) _) (by unfold maxLen; omega) (by omega) (Nat.le_trans (show w.heap.size + 2 ≤ w5.heap.size by omega) (Wex.size (v := w5) (by repeat (first | with_reducible exact Wex.refl | with_reducible apply Wex.alloc | with_reducible apply Wex.drew | with_reducible apply Wex.drewN)))) ?_
                        intro A6 cap6 w6 hown6 hgrow6 hloc6
                        have KP6 := Lib.hid (fun (g : Nat) (cs : Array Value) h hne => Blk.grown (g := g) (t := 46) (cs := cs) h hgrow6 hne)
                        have HK06 := Lib.hid ((Wex.blk (v := w5) (by repeat (first | with_reducible exact Wex.refl | with_reducible apply Wex.alloc | with_reducible apply Wex.drew | with_reducible apply Wex.drewN)) HK05.out).grown hgrow6 (by simp [blkOf]; omega))
                        have HB6 := Lib.hid ((Wex.bel (v := w5) (by repeat (first | with_reducible exact Wex.refl | with_reducible apply Wex.alloc | with_reducible apply Wex.drew | with_reducible apply Wex.drewN)) HB5.out (by omega)).grown hgrow6 (Nat.le_trans (show w.heap.size ≤ w5.heap.size by omega) (Wex.size (v := w5) (by repeat (first | with_reducible exact Wex.refl | with_reducible apply Wex.alloc | with_reducible apply Wex.drew | with_reducible apply Wex.drewN)))) (fun g hg => by simp [blkOf] at hg; omega))
                        have HK16 := Lib.hid ((Wex.blk (v := w5) (by repeat (first | with_reducible exact Wex.refl | with_reducible apply Wex.alloc | with_reducible apply Wex.drew | with_reducible apply Wex.drewN)) HK15.out).grown hgrow6 (by simp [blkOf]; omega))
                        have HO6 := Lib.hid hown6
                        have k06 := HK06.out.cell 0
                        have k06a := fun o => Wex.cell (.alloc o (.refl (v := w6))) HK06.out 0 rfl
                        have hz6 := HB6.out.size
                        have hzk6 := HK16.out.lt
                        clear hown6 hgrow6 hloc6)
                      | (
                        refine step_append_els (by rfl) (.tmp 50) (.tmp 54) 22 (by rfl) (w.heap.size + 2) 3 46 (.agg #[.int .i64 0, .int .i64 0, .int .i64 0]) 24 Try.underlying22 (by kernel_rfl) (by rfl) (by omega) Ed.cells _ A6 _ cap6 ([] ++ l3) (by simpa using HM3.out) (by rfl) (Wex.own (v := w6) (by repeat (first | with_reducible exact Wex.refl | with_reducible apply Wex.alloc | with_reducible apply Wex.drew | with_reducible apply Wex.drewN)) HO6.out) _ 1 1 [edOf k b] (by rfl) (by rfl) _ (els_of_blk (t := 46) (cs := #[.int .i64 k, .int .i64 b, .int .i64 0]) (by (repeat (first | (with_reducible refine Blk.new_at ?_; first | with_reducible rfl | (simp; done)) | with_reducible apply Blk.alloc | with_reducible apply Blk.drew | with_reducible apply Blk.drewN)); all_goals (refine KP6.out _ _ ?_ (by simp [blkOf]); (repeat (first | (with_reducible refine Blk.new_at ?_; first | with_reducible rfl | (simp; done)) | with_reducible apply Blk.alloc | with_reducible apply Blk.drew | with_reducible apply Blk.drewN)))) 3 Ed.cells (fun _ => rfl) [edOf k b] rfl) (one_flat (fun a u hu => by simp at hu; rcases hu with rfl | rfl | rfl <;> rfl) _) (by unfold maxLen; omega) (by omega) (Nat.le_trans (show w.heap.size + 2 ≤ w6.heap.size by omega) (Wex.size (v := w6) (by repeat (first | with_reducible exact Wex.refl | with_reducible apply Wex.alloc | with_reducible apply Wex.drew | with_reducible apply Wex.drewN)))) ?_
                        intro A7 cap7 w7 hown7 hgrow7 hloc7
                        have HK07 := Lib.hid ((Wex.blk (v := w6) (by repeat (first | with_reducible exact Wex.refl | with_reducible apply Wex.alloc | with_reducible apply Wex.drew | with_reducible apply Wex.drewN)) HK06.out).grown hgrow7 (fun h => by have := (HO6.out.lt _ h.symm).1; omega))
                        have HK17 := Lib.hid ((Wex.blk (v := w6) (by repeat (first | with_reducible exact Wex.refl | with_reducible apply Wex.alloc | with_reducible apply Wex.drew | with_reducible apply Wex.drewN)) HK16.out).grown hgrow7 (fun h => by have := (HO6.out.lt _ h.symm).1; omega))
                        have HB7 := Lib.hid ((Wex.bel (v := w6) (by repeat (first | with_reducible exact Wex.refl | with_reducible apply Wex.alloc | with_reducible apply Wex.drew | with_reducible apply Wex.drewN)) HB6.out (by omega)).grown hgrow7 (Nat.le_trans (show w.heap.size ≤ w6.heap.size by omega) (Wex.size (v := w6) (by repeat (first | with_reducible exact Wex.refl | with_reducible apply Wex.alloc | with_reducible apply Wex.drew | with_reducible apply Wex.drewN)))) (fun g hg => by have := (HO6.out.lt g hg).1; omega))
                        have HO7 : Hid (Own w7 (w.heap.size + 2) 46 3 Ed.cells A7 cap7 (l3 ++ [edOf k b])) := Lib.hid hown7
                        have k07 := HK07.out.cell 0
                        have k17 := HK07.out.cell 1
                        have j07 := HK07.out.frozen 0
                        have j17 := HK07.out.frozen 1
                        clear hown7 hgrow7 hloc7)))
                    all_goals
                      go_wp2_with fail
                      go_roundw
                      case rel =>
                        refine ⟨b + 1, l3 ++ [edOf k b], A7, cap7, m3 + 1, by omega, by omega, by go_num, by rw [List.length_append, HM3.out]; rfl, ?_, ?_, ?_, .inr ?_, .inr ⟨rfl, HG3.out, k, b, ⟨by omega, hlt2, HN2.out, HNO.out⟩, rfl⟩⟩
                        · (repeat (first | with_reducible exact (HB7.out.setCell (p := ⟨w.heap.size, 0, none⟩) (Nat.le_refl _) _).setCell (p := ⟨w.heap.size, 1, none⟩) (Nat.le_refl _) _ | with_reducible apply Below.drew | with_reducible apply below_drewN))
                        · (repeat (first | exact (HK07.out.put 0 (.int .i64 N)).put 1 (.slice A7 (m3 + 1) cap7) | with_reducible apply Blk.drew | with_reducible apply Blk.drewN))
                        · (repeat (first | with_reducible exact (HK17.out.far (p := ⟨w.heap.size, 0, none⟩) (show w.heap.size + 1 ≠ w.heap.size by omega) _).far (p := ⟨w.heap.size, 1, none⟩) (show w.heap.size + 1 ≠ w.heap.size by omega) _ | with_reducible apply Blk.drew | with_reducible apply Blk.drewN))
                        · (repeat (first | with_reducible exact (HO7.out.low (p := ⟨w.heap.size, 0, none⟩) (show w.heap.size < w.heap.size + 2 by omega) _).low (p := ⟨w.heap.size, 1, none⟩) (show w.heap.size < w.heap.size + 2 by omega) _ | with_reducible apply Own.drew | with_reducible apply Own.drewN))
                      case measure => simp [intOf]; omega
                  · have HN2 : Hid (okP N l3 k b = false) := Lib.hid (by rw [HOKP.out]; simp; omega)
                    refine wp_region_quiet_below (by kernel_rfl) (by kernel_rfl) ?_
                    repeat (go_big_quiet_step (first | (go_at_call 18; have h := HQN.out; with_reducible exact h _ _) | (go_at_call 19; have h := HQK.out; with_reducible exact h _ _) | (go_at_call 19; have h := HQB.out; with_reducible exact h _ _)))
                    refine wpQuiet_nil ?_
                    intro w5 hw5
                    obtain ⟨p, hw5'⟩ := hw5
                    have hb5 := below_regrown w4 p.d p.os
                    rw [← hw5'] at hb5
                    have HB5 := Lib.hid (HB.out.trans (hb5.mono hz))
                    have HK05 := Lib.hid (HK0.out.below hb5 HK0.out.lt)
                    have HK15 := Lib.hid (HK1.out.below hb5 HK1.out.lt)
                    have HED5 := Lib.hid (HED.out.below hb5)
                    clear hw5' hb5 g0 g1 c0 c1 hw HQN HQK HQB HB HK0 HK1 HED
                    go_wp2_with fail
                    go_roundw
                    case rel => exact ⟨b + 1, l3, A3, cap3, m3, by omega, by omega, by go_num, HM3.out, HB5.out, HK05.out, HK15.out, HED5.out, .inl ⟨rfl, rfl, HNO.out.next HN2.out⟩⟩
                    case measure => simp [intOf]; omega
              · obtain rfl : b = N := by omega
                go_wp2_with fail
                go_roundw
                case rel => exact ⟨k + 1, l3, A3, cap3, m3, by omega, by go_num, HM3.out, HB.out, HK0.out, HK1.out, HED.out, .inl ⟨rfl, rfl, HNO.out.line (Nat.le_refl _)⟩⟩
                case measure => simp [intOf]; omega
            · have HG3 := Lib.hid hg3
              have HIF := Lib.hid hif
              have HL3 := Lib.hid hl3
              clear hg3 hif hl3
              by_cases hlt2 : b < N
              · go_wp2_with fail
                go_roundw
                case rel => exact ⟨k + 1, l3, A3, cap3, m3, by omega, by go_num, HM3.out, HB.out, HK0.out, HK1.out, HED.out, .inr ⟨rfl, HG3.out, a, b', HIF.out, HL3.out⟩⟩
                case measure => simp [intOf]; omega
              · go_wp2_with fail
                go_roundw
                case rel => exact ⟨k + 1, l3, A3, cap3, m3, by omega, by go_num, HM3.out, HB.out, HK0.out, HK1.out, HED.out, .inr ⟨rfl, HG3.out, a, b', HIF.out, HL3.out⟩⟩
                case measure => simp [intOf]; omega
        · obtain rfl : k = N := by omega
          have hdone := HCL.out l2 (.stop (HNO.out.done (Nat.le_refl _)))
          have HD := Lib.hid hdone
          have c1 := HK0.out.cell 1
          have d0 := HK1.out.cell 0
          have d1 := HK1.out.cell 1
          have f0 := HK1.out.frozen 0
          have f1 := HK1.out.frozen 1
          clear hdone
          go_wp2_with fail
          have hv := (HK1.out.put 0 (.int .i64 k)).put 1 (.slice A2 m2 cap2)
          have hv0 := hv.cell 0
          have hv1 := hv.cell 1
          refine bodyPost_ret (v := .agg #[.int .i64 k, .slice A2 m2 cap2]) (by simp [results, Try.results7, go_sem, hv0, hv1]) rfl ?_
          have hbe := (HB.out.setCell (p := ⟨w.heap.size + 1, 0, none⟩) (show w.heap.size ≤ w.heap.size + 1 by omega) (.int .i64 k)).setCell (p := ⟨w.heap.size + 1, 1, none⟩) (show w.heap.size ≤ w.heap.size + 1 by omega) (.slice A2 m2 cap2)
          refine ⟨A2, m2, cap2, l2, rfl, hbe, HD.out, HM2.out, by have := HG.out.m45; have := HM2.out; omega, ?_⟩
          rcases HED.out with ⟨rfl, rfl⟩ | ho
          · exact (HR.out.below hbe).more hbe.size
          · exact ((ho.low (p := ⟨w.heap.size + 1, 0, none⟩) (show w.heap.size + 1 < w.heap.size + 2 by omega) _).low (p := ⟨w.heap.size + 1, 1, none⟩) (show w.heap.size + 1 < w.heap.size + 2 by omega) _).els
      · have HG2 := Lib.hid hg2
        have HIF := Lib.hid hif
        have HL2 := Lib.hid hl2
        have hm2 : m2 = m + 1 := by rw [← HM2.out, hl2, List.length_append, HM.out]; rfl
        have hm245 : m2 ≤ 45 := by have := hg2.m45; have := HM2.out; omega
        clear hg2 hif hl2
        by_cases hlt : k < N
        · go_wp2_with fail
          go_roundw
          case rel => exact ⟨l2, A2, cap2, m2, HM2.out, HG2.out, fun R hR => HCL.out R (.step HIF.out (by rw [← HL2.out]; exact hR)), HB.out, HK0.out, HK1.out, HED.out⟩
          case measure =>
            rw [HLEN.out, lenAt_is (A := A2) (n := m2) (c := cap2) (HK0.out.cell 1)]
            omega
        · go_wp2_with fail
          go_roundw
          case rel => exact ⟨l2, A2, cap2, m2, HM2.out, HG2.out, fun R hR => HCL.out R (.step HIF.out (by rw [← HL2.out]; exact hR)), HB.out, HK0.out, HK1.out, HED.out⟩
          case measure =>
            rw [HLEN.out, lenAt_is (A := A2) (n := m2) (c := cap2) (HK0.out.cell 1)]
            omega
end Go.Proofs.Ytdleajoagcopgaa
