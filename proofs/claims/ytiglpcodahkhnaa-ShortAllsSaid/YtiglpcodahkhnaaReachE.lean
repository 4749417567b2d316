/- How far all are from all: the program's way. Conditions: the arcs read as a list. -/
import Derived.Test.YtiglpcodahkhnaaReachD
import Derived.Test.YtiglpcodahkhnaaExt
import Derived.Deep.RegionLaw
namespace Go.Proofs.Ytiglpcodahkhnaa
open Go.RowKit

abbrev rowN (N : Nat) (A : Option Addr) : List Value := [.slice A N N]
def allOk (l : List Arc) (N : Nat) : Bool := (List.range N).all fun s => fromOk l N s
def allErr (N : Int) (l : List Arc) : Int := if netCheck N l = 0 then (if allOk l N.toNat = true then 0 else 5) else netCheck N l
/-- The rows so far, each in a block of its own. -/
def RowsAt (W : World) (B : Nat) (N : Nat) (l : List Arc) (L6 L7 : List (Option Addr)) : Prop :=
  L6.length = L7.length ∧ ∀ i, i < L6.length → fromOk l N i = true ∧ Own W B 2 1 icell (L6.getD i none) N (farL (refO l N i N)) ∧ Own W B 4 1 bcell (L7.getD i none) N (thereL (refO l N i N))
theorem RowsAt.nil (W : World) (B N : Nat) (l : List Arc) : RowsAt W B N l [] [] := ⟨rfl, fun i h => absurd h (by simp)⟩
theorem RowsAt.map {W W' : World} {B N : Nat} {l : List Arc} {L6 L7 : List (Option Addr)} (h : RowsAt W B N l L6 L7)
    (h6 : ∀ (A : Option Addr) (L : List Int), Own W B 2 1 icell A N L → Own W' B 2 1 icell A N L) (h7 : ∀ (A : Option Addr) (L : List Bool), Own W B 4 1 bcell A N L → Own W' B 4 1 bcell A N L) : RowsAt W' B N l L6 L7 :=
  ⟨h.1, fun i hi => ⟨(h.2 i hi).1, h6 _ _ (h.2 i hi).2.1, h7 _ _ (h.2 i hi).2.2⟩⟩
theorem RowsAt.snoc {W : World} {B N : Nat} {l : List Arc} {L6 L7 : List (Option Addr)} (h : RowsAt W B N l L6 L7) {A1 A2 : Option Addr} (hok : fromOk l N L6.length = true)
    (h1 : Own W B 2 1 icell A1 N (farL (refO l N L6.length N))) (h2 : Own W B 4 1 bcell A2 N (thereL (refO l N L6.length N))) : RowsAt W B N l (L6 ++ [A1]) (L7 ++ [A2]) := by
  refine ⟨by simp [h.1], fun i hi => ?_⟩
  rw [List.length_append, List.length_singleton] at hi
  by_cases hlt : i < L6.length
  · have e6 : (L6 ++ [A1]).getD i none = L6.getD i none := by simp [List.getD_eq_getElem?_getD, List.getElem?_append_left hlt]
    have e7 : (L7 ++ [A2]).getD i none = L7.getD i none := by simp [List.getD_eq_getElem?_getD, List.getElem?_append_left (show i < L7.length by rw [← h.1]; exact hlt)]
    rw [e6, e7]
    exact h.2 i hlt
  · obtain rfl : i = L6.length := by omega
    have e6 : (L6 ++ [A1]).getD L6.length none = A1 := by simp [List.getD_eq_getElem?_getD]
    have e7 : (L7 ++ [A2]).getD L6.length none = A2 := by rw [h.1]; simp [List.getD_eq_getElem?_getD]
    rw [e6, e7]
    exact ⟨hok, h1, h2⟩
theorem allOk_take {l : List Arc} {N : Nat} (h : ∀ i, i < N → fromOk l N i = true) : allOk l N = true := by
  unfold allOk
  rw [List.all_eq_true]
  intro i hi
  exact h i (List.mem_range.1 hi)
theorem allOk_not {l : List Arc} {N s : Nat} (hs : s < N) (h : fromOk l N s = false) : allOk l N = false := by
  unfold allOk
  rw [List.all_eq_false]
  exact ⟨s, List.mem_range.2 hs, by simp [h]⟩

set_option maxRecDepth 100000 in
set_option maxHeartbeats 4000000 in
theorem short_All (N : Int) (A : Option Addr) (n c : Nat) (l : List Arc) (w : World) (hl : l.length = n) (hn : n ≤ maxLen) (hr : Els w w.heap.size 4 Arc.cells A l) :
    Calls Try.prog 24 #[.agg #[.int .i64 N, .slice A n c]] w fun e w' => ∃ A1 A2 n1 c1 n2 c2, e = .returned (.tuple #[.slice A1 n1 c1, .slice A2 n2 c2, .int .i64 (allErr N l)]) ∧ Below w.heap.size w w' ∧
      (allErr N l ≠ 0 → n1 = 0 ∧ n2 = 0) ∧ (allErr N l = 0 → (n1 : Int) = N ∧ (n2 : Int) = N ∧ ∃ L6 L7, L6.length = n1 ∧ Els w' w'.heap.size 1 (rowN n1) A1 L6 ∧ Els w' w'.heap.size 1 (rowN n1) A2 L7 ∧ RowsAt w' w.heap.size n1 l L6 L7) := by
  have HW : Hid (∀ v : World, Below w.heap.size w v → Calls Try.prog 58 #[.agg #[.int .i64 N, .slice A n c], .slice none 0 0] v fun e w' => e = .returned (.int .i64 (netCheck N l)) ∧ Below v.heap.size v w') := fun v hb => by
    have := short_wrong N A n c l [] none 0 0 v hl hn rfl (by omega) ((hr.below hb).more hb.size) Els.nil
    rwa [wrong_none] at this
  have HF : Hid (∀ (N' s' : Nat) (v : World), N = N' → s' < N' → N' ≤ 10 → l.length ≤ 30 → (∀ a ∈ l, GoodA N' a) → Below w.heap.size w v → Calls Try.prog 59 #[.agg #[.int .i64 N', .slice A n c], .int .i64 s'] v fun e w' => ∃ A1 A2, e = .returned (.tuple #[.agg #[.slice A1 N' N', .slice A2 N' N'], .bool (fromOk l N' s')]) ∧ Below v.heap.size v w' ∧
      (fromOk l N' s' = true → Own w' v.heap.size 2 1 icell A1 N' (farL (refO l N' s' N')) ∧ Own w' v.heap.size 4 1 bcell A2 N' (thereL (refO l N' s' N')))) := fun N' s' v _ h3 h4 h5 h6 hb =>
    (short_from_own N' s' A n c l v hl h6 h4 (by omega) h3 ((hr.below hb).more hb.size)).mono fun _ _ ⟨A1, A2, O, k1, k2, k3, k4, k5, k6⟩ => ⟨A1, A2, k1, k2, fun hok => by
      obtain ⟨r, _, e1, e2⟩ := k6 hok
      rw [e1] at e2
      have e3 := (prog_ref h6 h3 e2).1
      rw [← e3, ← e1]
      exact ⟨k3, k4⟩⟩
  have HB := Lib.hid ((Below.refl w.heap.size w).alloc (Nat.le_refl _) (.cells #[.int .i64 N, .slice A n c] 31))
  have HK := Lib.hid (Blk.new w 31 #[.int .i64 N, .slice A n c])
  clear hl hn hr
  go_enter Try.func24, Try.ntmps24
  go_wp2_with fail
  refine (HW.out _ HB.out).mono ?_
  clear HW
  rintro e v1 ⟨rfl, hb⟩
  have HB3 := Lib.hid (HB.out.trans (hb.mono HB.out.size))
  have HK3 := Lib.hid (HK.out.below hb HK.out.lt)
  have c0 := HK3.out.cell 0
  have c1 := HK3.out.cell 1
  clear hb HB HK
  by_cases h0 : netCheck N l = 0
  · have HE : Hid (allErr N l = if allOk l N.toNat = true then 0 else 5) := Lib.hid (if_pos h0)
    obtain ⟨N', rfl, h2, h3, h4⟩ := net_good h0
    rw [h0]
    clear h0
    have HF1 : Hid (∀ (s' : Nat) (v : World), s' < N' → Below w.heap.size w v → Calls Try.prog 59 #[.agg #[.int .i64 N', .slice A n c], .int .i64 s'] v fun e w' => ∃ A1 A2, e = .returned (.tuple #[.agg #[.slice A1 N' N', .slice A2 N' N'], .bool (fromOk l N' s')]) ∧ Below v.heap.size v w' ∧
      (fromOk l N' s' = true → Own w' v.heap.size 2 1 icell A1 N' (farL (refO l N' s' N')) ∧ Own w' v.heap.size 4 1 bcell A2 N' (thereL (refO l N' s' N')))) := Lib.hid (fun s' v hs hb => HF.out N' s' v rfl hs h2 h3 h4 hb)
    have HG := Lib.hid h4
    clear HF h3 h4
    go_wp2_with fail
    clear c0 c1
    go_loopw [18, 6, 7] (fun s18 s6 s7 wr => ∃ (k : Nat) (A6 : Option Addr) (c6 : Nat) (A7 : Option Addr) (c7 : Nat) (L6 L7 : List (Option Addr)), k ≤ N' ∧ s18 = .int .i64 k ∧ s6 = .slice A6 k c6 ∧ s7 = .slice A7 k c7 ∧ Below w.heap.size w wr ∧ Blk wr w.heap.size 31 #[.int .i64 N', .slice A n c] ∧
      L6.length = k ∧ Own wr (w.heap.size + 1) 22 1 (rowN N') A6 c6 L6 ∧ Own wr (w.heap.size + 1) 32 1 (rowN N') A7 c7 L7 ∧ RowsAt wr w.heap.size N' l L6 L7) (fun s18 _ _ _ => N' - (intOf s18).toNat)
    case atStart => exact ⟨0, none, 0, none, 0, [], [], by omega, rfl, rfl, rfl, HB3.out, HK3.out, rfl, Own.nil _ _ _ (fun _ => rfl), Own.nil _ _ _ (fun _ => rfl), RowsAt.nil _ _ _ _⟩
    case round =>
      clear HB3 HK3
      rename World => wr
      obtain ⟨k, A6, c6, A7, c7, L6, L7, hk, rfl, rfl, rfl, hb, hk0, hL6, ho6, ho7, hrows⟩ := hrel
      have hL7 : L7.length = k := by rw [← hrows.1]; exact hL6
      have hz := hb.size
      have hzk := hk0.lt
      have c0 := hk0.cell 0
      have c1 := hk0.cell 1
      have HB := Lib.hid hb
      have HK := Lib.hid hk0
      have HL6 := Lib.hid hL6
      have HL7 := Lib.hid hL7
      have HO6 := Lib.hid ho6
      have HO7 := Lib.hid ho7
      have HR := Lib.hid hrows
      clear hb hk0 hL6 hL7 ho6 ho7 hrows
      by_cases hlt : k < N'
      · have HF2 := Lib.hid (HF1.out k wr hlt HB.out)
        go_wp2_with fail
        refine HF2.out.mono ?_
        clear HF2
        rintro e v2 ⟨A1, A2, rfl, hb2, hown⟩
        have HB2 := Lib.hid (HB.out.trans (hb2.mono hz))
        have HK2 := Lib.hid (HK.out.below hb2 hzk)
        have HO62 := Lib.hid (HO6.out.below hb2 (Nat.le_refl _))
        have HO72 := Lib.hid (HO7.out.below hb2 (Nat.le_refl _))
        have HR2 := Lib.hid (HR.out.map (fun _ _ h => h.below hb2 (Nat.le_refl _)) (fun _ _ h => h.below hb2 (Nat.le_refl _)))
        have HOW := Lib.hid hown
        have hz2 := hb2.size
        clear hb2 hown HB HK HO6 HO7 HR c0 c1
        obtain ⟨ok, hok⟩ : ∃ ok, ok = fromOk l N' k := ⟨_, rfl⟩
        rw [← hok] at HOW ⊢
        have HOK := Lib.hid hok
        clear hok
        cases ok with
        | false =>
          go_wp2_with fail
          refine bodyPost_ret (v := .tuple #[.slice none 0 0, .slice none 0 0, .int .i64 5]) (by simp [results, Try.results24, go_sem]) rfl ?_
          have hE : allErr (N' : Int) l = 5 := by rw [HE.out, Int.toNat_natCast, allOk_not hlt HOK.out.symm]; rfl
          exact ⟨none, none, 0, 0, 0, 0, by rw [hE], HB2.out.alloc HB2.out.size _, fun _ => ⟨rfl, rfl⟩, fun h => by rw [hE] at h; cases h⟩
        | true =>
          obtain ⟨o1, o2⟩ := HOW.out (by trivial)
          have HN1 := Lib.hid (o1.weaken (show w.heap.size ≤ wr.heap.size by omega))
          have HN2 := Lib.hid (o2.weaken (show w.heap.size ≤ wr.heap.size by omega))
          have hR3 := HR2.out.snoc (A1 := A1) (A2 := A2) (by rw [HL6.out]; exact HOK.out.symm) (by rw [HL6.out]; exact HN1.out) (by rw [HL6.out]; exact HN2.out)
          have HR3 := Lib.hid hR3
          have ht := Blk.new v2 110 #[.slice A1 N' N', .slice A2 N' N']
          have t0 := ht.cell 0
          have t1 := ht.cell 1
          clear o1 o2 hR3 HN1 HN2 HR2 HOW
          go_wp2_with fail
          go_region_law ((first
            | (
              refine step_append_els (by rfl) (.tmp 29) (.tmp 32) 41 (by rfl) (w.heap.size + 1) 1 22 (.slice none 0 0) 24 Try.underlying41 (by kernel_rfl) (by rfl) (by omega) (rowN N') _ A6 k c6 L6 HL6.out (by rfl) (Wex.own (v := v2) (by repeat (first | with_reducible exact Wex.refl | with_reducible apply Wex.alloc | with_reducible apply Wex.drew | with_reducible apply Wex.drewN)) HO62.out) _ 1 1 [A1] (by rfl) (by rfl) _ (els_of_blk (t := 22) (cs := #[.slice A1 N' N']) (by repeat (first | (with_reducible refine Blk.new_at ?_; first | with_reducible rfl | (simp; done)) | with_reducible apply Blk.alloc | with_reducible apply Blk.drew | with_reducible apply Blk.drewN | with_reducible assumption)) 1 (rowN N') (fun _ => rfl) [A1] rfl) (by simp [Value.oneCell']) (by unfold maxLen; omega) (by omega) (Nat.le_trans (show w.heap.size + 1 ≤ v2.heap.size by omega) (Wex.size (v := v2) (by repeat (first | with_reducible exact Wex.refl | with_reducible apply Wex.alloc | with_reducible apply Wex.drew | with_reducible apply Wex.drewN)))) ?_
              intro A63 c63 w3 hown3 hgrow3 hloc3
              have keep3 := fun (g : Nat) (t : TypeId) (cs : Array Value) (ht : t ≠ 22) h => Blk.grown (g := g) (t := t) (cs := cs) h hgrow3 ((Wex.own (v := v2) (by repeat (first | with_reducible exact Wex.refl | with_reducible apply Wex.alloc | with_reducible apply Wex.drew | with_reducible apply Wex.drewN)) HO62.out).ne_blk h ht)
              have KP3 := Lib.hid keep3
              have tab3 := keep3 v2.heap.size 110 #[.slice A1 N' N', .slice A2 N' N'] (by decide) (by repeat (first | (with_reducible refine Blk.new_at ?_; first | with_reducible rfl | (simp; done)) | with_reducible apply Blk.alloc | with_reducible apply Blk.drew | with_reducible apply Blk.drewN | with_reducible assumption))
              have HK3 := Lib.hid (keep3 w.heap.size 31 #[.int .i64 N', .slice A n c] (by decide) (Wex.blk (v := v2) (by repeat (first | with_reducible exact Wex.refl | with_reducible apply Wex.alloc | with_reducible apply Wex.drew | with_reducible apply Wex.drewN)) HK2.out))
              have t03 := tab3.cell 0
              have t13 := tab3.cell 1
              have HB3 := Lib.hid ((Wex.bel (v := v2) (by repeat (first | with_reducible exact Wex.refl | with_reducible apply Wex.alloc | with_reducible apply Wex.drew | with_reducible apply Wex.drewN)) HB2.out (by omega)).grown hgrow3 (Nat.le_trans (show w.heap.size ≤ v2.heap.size by omega) (Wex.size (v := v2) (by repeat (first | with_reducible exact Wex.refl | with_reducible apply Wex.alloc | with_reducible apply Wex.drew | with_reducible apply Wex.drewN)))) (fun g hg => by have := (HO62.out.lt g hg).1; omega))
              have HO73 := Lib.hid ((Wex.own (v := v2) (by repeat (first | with_reducible exact Wex.refl | with_reducible apply Wex.alloc | with_reducible apply Wex.drew | with_reducible apply Wex.drewN)) HO72.out).kept hgrow3 (HO72.out.apart HO62.out (by decide)))
              have HR33 := Lib.hid (HR3.out.map (fun _ _ h => (Wex.own (v := v2) (by repeat (first | with_reducible exact Wex.refl | with_reducible apply Wex.alloc | with_reducible apply Wex.drew | with_reducible apply Wex.drewN)) h).kept hgrow3 (h.apart HO62.out (by decide))) (fun _ _ h => (Wex.own (v := v2) (by repeat (first | with_reducible exact Wex.refl | with_reducible apply Wex.alloc | with_reducible apply Wex.drew | with_reducible apply Wex.drewN)) h).kept hgrow3 (h.apart HO62.out (by decide))))
              have HO63 := Lib.hid hown3
              have hz3 := HB3.out.size
              have hzk3 := HK3.out.lt
              clear keep3 tab3 hown3 hgrow3 hloc3)
            | (
              refine step_append_els (by rfl) (.tmp 34) (.tmp 37) 42 (by rfl) (w.heap.size + 1) 1 32 (.slice none 0 0) 24 Try.underlying42 (by kernel_rfl) (by rfl) (by omega) (rowN N') _ A7 k c7 L7 HL7.out (by rfl) (Wex.own (v := w3) (by repeat (first | with_reducible exact Wex.refl | with_reducible apply Wex.alloc | with_reducible apply Wex.drew | with_reducible apply Wex.drewN)) HO73.out) _ 1 1 [A2] (by rfl) (by rfl) _ (els_of_blk (t := 32) (cs := #[.slice A2 N' N']) (by (repeat (first | (with_reducible refine Blk.new_at ?_; first | with_reducible rfl | (simp; done)) | with_reducible apply Blk.alloc | with_reducible apply Blk.drew | with_reducible apply Blk.drewN | with_reducible assumption)); all_goals (refine KP3.out _ _ _ (by decide) ?_; (repeat (first | (with_reducible refine Blk.new_at ?_; first | with_reducible rfl | (simp; done)) | with_reducible apply Blk.alloc | with_reducible apply Blk.drew | with_reducible apply Blk.drewN | with_reducible assumption)))) 1 (rowN N') (fun _ => rfl) [A2] rfl) (by simp [Value.oneCell']) (by unfold maxLen; omega) (by omega) (Nat.le_trans (show w.heap.size + 1 ≤ w3.heap.size by omega) (Wex.size (v := w3) (by repeat (first | with_reducible exact Wex.refl | with_reducible apply Wex.alloc | with_reducible apply Wex.drew | with_reducible apply Wex.drewN)))) ?_
              intro A75 c75 w5 hown5 hgrow5 hloc5
              have HK5 := Lib.hid ((Wex.blk (v := w3) (by repeat (first | with_reducible exact Wex.refl | with_reducible apply Wex.alloc | with_reducible apply Wex.drew | with_reducible apply Wex.drewN)) HK3.out).grown hgrow5 (by have := HO73.out.ne_blk HK3.out (by decide); exact this))
              have HB5 := Lib.hid ((Wex.bel (v := w3) (by repeat (first | with_reducible exact Wex.refl | with_reducible apply Wex.alloc | with_reducible apply Wex.drew | with_reducible apply Wex.drewN)) HB3.out (by omega)).grown hgrow5 (Nat.le_trans (show w.heap.size ≤ w3.heap.size by omega) (Wex.size (v := w3) (by repeat (first | with_reducible exact Wex.refl | with_reducible apply Wex.alloc | with_reducible apply Wex.drew | with_reducible apply Wex.drewN)))) (fun g hg => by have := (HO73.out.lt g hg).1; omega))
              have HO65 := Lib.hid ((Wex.own (v := w3) (by repeat (first | with_reducible exact Wex.refl | with_reducible apply Wex.alloc | with_reducible apply Wex.drew | with_reducible apply Wex.drewN)) HO63.out).kept hgrow5 (HO63.out.apart HO73.out (by decide)))
              have HR5 := Lib.hid (HR33.out.map (fun _ _ h => (Wex.own (v := w3) (by repeat (first | with_reducible exact Wex.refl | with_reducible apply Wex.alloc | with_reducible apply Wex.drew | with_reducible apply Wex.drewN)) h).kept hgrow5 (h.apart HO73.out (by decide))) (fun _ _ h => (Wex.own (v := w3) (by repeat (first | with_reducible exact Wex.refl | with_reducible apply Wex.alloc | with_reducible apply Wex.drew | with_reducible apply Wex.drewN)) h).kept hgrow5 (h.apart HO73.out (by decide))))
              have HO75 := Lib.hid hown5
              clear hown5 hgrow5 hloc5)))
          all_goals
            go_wp2_with fail
            go_roundw
            case rel => exact ⟨k + 1, A63, c63, A75, c75, L6 ++ [A1], L7 ++ [A2], by omega, by go_num, rfl, rfl, HB5.out, HK5.out, by rw [List.length_append, HL6.out]; rfl, HO65.out, HO75.out, HR5.out⟩
            case measure => simp [intOf]; omega
      · obtain rfl : k = N' := by omega
        have hall : allErr (k : Int) l = 0 := by
          rw [HE.out, Int.toNat_natCast, allOk_take (fun i hi => (HR.out.2 i (by rw [HL6.out]; exact hi)).1)]
          rfl
        have HALL := Lib.hid hall
        clear hall
        go_wp2_with fail
        refine bodyPost_ret (v := .tuple #[.slice A6 k c6, .slice A7 k c7, .int .i64 0]) (by simp [results, Try.results24, go_sem]) rfl ?_
        exact ⟨A6, A7, k, c6, k, c7, by rw [HALL.out], HB.out, fun h => (h HALL.out).elim, fun _ => ⟨rfl, rfl, L6, L7, HL6.out, HO6.out.els, HO7.out.els, HR.out⟩⟩
  · have HE : Hid (allErr N l = netCheck N l) := Lib.hid (if_neg h0)
    have h1 : (netCheck N l != 0) = true := by simpa using h0
    have h2 : allErr N l ≠ 0 := by rw [HE.out]; exact h0
    have HZ := Lib.hid h2
    clear h2
    generalize netCheck N l = x at HE h1 h0
    clear h0
    go_wp2_with fail
    refine bodyPost_ret (v := .tuple #[.slice none 0 0, .slice none 0 0, .int .i64 x]) (by simp [results, Try.results24, go_sem]) rfl ?_
    exact ⟨none, none, 0, 0, 0, 0, by rw [HE.out], HB3.out, fun _ => ⟨rfl, rfl⟩, fun h => (HZ.out h).elim⟩
end Go.Proofs.Ytiglpcodahkhnaa
