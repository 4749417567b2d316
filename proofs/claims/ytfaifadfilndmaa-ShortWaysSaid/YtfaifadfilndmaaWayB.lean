/- The first shortest walk: the program's table and its way along it. Conditions: the arcs read as a list. -/
import Derived.Test.YtfaifadfilndmaaWayQ
import Derived.Test.YtfaifadfilndmaaIntsOf
import Derived.Test.YtfaifadfilndmaaOwnIn
import Derived.Test.YtfaifadfilndmaaRegC
import Derived.Test.YtfaifadfilndmaaExt
namespace Go.Proofs.Ytfaifadfilndmaa
open Go.RowKit

/-- What the search hands back of two nodes that are there. -/
def WayIs (l : List Arc) (N s t : Nat) (A1 : Option Addr) (n1 : Nat) (w : World) : Prop := ∃ k, IsSize l N s t k ∧ n1 = (wayF l N t k s).length ∧ Els w w.heap.size 1 icell A1 (intsOf (wayF l N t k s))
theorem wrong_two {N : Int} {l : List Arc} {s t : Int} (h : wrongP N l [s, t] = 0) : ∃ N' s' t' : Nat, N = N' ∧ s = s' ∧ t = t' ∧ s' < N' ∧ t' < N' ∧ N' ≤ 10 ∧ l.length ≤ 30 ∧ (∀ a ∈ l, GoodA N' a) ∧ nodeP N l s = 0 := by
  unfold wrongP at h
  split at h
  · rename_i h0
    obtain ⟨N', rfl, h1, h2, h3⟩ := net_good h0
    split at h
    · cases h
    · rename_i h4
      simp [outB] at h4
      refine ⟨N', s.toNat, t.toNat, rfl, by omega, by omega, by omega, by omega, h1, h2, h3, ?_⟩
      unfold nodeP
      rw [if_pos h0, if_neg (by omega)]
  · rename_i h0
    exact absurd h h0

set_option maxRecDepth 100000 in
set_option maxHeartbeats 4000000 in
theorem short_Way (N s t : Int) (A : Option Addr) (n c : Nat) (l : List Arc) (w : World) (hl : l.length = n) (hn : n ≤ maxLen) (hr : Els w w.heap.size 4 Arc.cells A l) :
    Calls Try.prog 16 #[.agg #[.int .i64 N, .slice A n c], .int .i64 s, .int .i64 t] w fun e w' => ∃ (A1 : Option Addr) (n1 c1 : Nat) (er : Int), e = .returned (.tuple #[.slice A1 n1 c1, .int .i64 er]) ∧ Below w.heap.size w w' ∧
      (wrongP N l [s, t] ≠ 0 → n1 = 0 ∧ er = wrongP N l [s, t]) ∧ (∀ N' s' t' : Nat, wrongP N l [s, t] = 0 → N = N' → s = s' → t = t' → (fromOk l N' s' = false ∨ og (refO l N' s' N') t' = none → n1 = 0 ∧ er = 5) ∧
        (fromOk l N' s' = true → ∀ x, og (refO l N' s' N') t' = some x → er = 0 ∧ WayIs l N' s' t' A1 n1 w')) := by
  obtain ⟨S, hS⟩ : ∃ S, S = w.heap.size := ⟨_, rfl⟩
  have hb0 := (Below.refl w.heap.size w).alloc (Nat.le_refl _) (.cells #[.int .i64 N, .slice A n c] 34)
  have hk0 := Blk.new w 34 #[.int .i64 N, .slice A n c]
  have HW : Hid (∀ (v : World), Below S w v → Els v v.heap.size 1 icell (some ⟨S + 1, 0, none⟩) [s, t] → Calls Try.prog 33 #[.agg #[.int .i64 N, .slice A n c], .slice (some ⟨S + 1, 0, none⟩) 2 2] v fun e w' => e = .returned (.int .i64 (wrongP N l [s, t])) ∧ Below v.heap.size v w') := Lib.hid (fun v hb hi => by
    rw [hS] at hb hi ⊢
    exact short_wrong N A n c l [s, t] _ 2 2 v hl hn rfl (by omega) ((hr.below hb).more hb.size) hi)
  have HF : Hid (∀ v : World, Below S w v → Calls Try.prog 34 #[.agg #[.int .i64 N, .slice A n c], .int .i64 s] v fun e w' => ∃ A1 A2 n1 n2, e = .returned (.tuple #[.slice A1 n1 n1, .slice A2 n2 n2, .int .i64 (farErr N l s)]) ∧ Below v.heap.size v w' ∧
      (farErr N l s ≠ 0 → n1 = 0 ∧ n2 = 0) ∧ (farErr N l s = 0 → (n1 : Int) = N ∧ (n2 : Int) = N ∧ Els w' w'.heap.size 1 icell A1 (farL (refO l N.toNat s.toNat N.toNat)) ∧ Els w' w'.heap.size 1 bcell A2 (thereL (refO l N.toNat s.toNat N.toNat)))) := Lib.hid (fun v hb => by
    rw [hS] at hb
    exact short_Far N s A n c l v hl hn ((hr.below hb).more hb.size))
  rw [← hS] at hb0 hk0 hr ⊢
  have hz0 : (w.alloc (.cells #[.int .i64 N, .slice A n c] 34)).heap.size = S + 1 := by rw [size_alloc', hS]
  have hb2 : Below S w ((w.alloc (.cells #[.int .i64 N, .slice A n c] 34)).alloc (.cells #[.int .i64 s, .int .i64 t] 3)) := hb0.alloc (by omega) _
  have hk2 := Blk.new (w.alloc (.cells #[.int .i64 N, .slice A n c] 34)) 3 #[.int .i64 s, .int .i64 t]
  rw [hz0] at hk2
  have HE2 := Lib.hid (els_of_blk hk2 1 icell (fun _ => rfl) [s, t] rfl)
  have HB2 := Lib.hid hb2
  have HK2 := Lib.hid (hk0.alloc (.cells #[.int .i64 s, .int .i64 t] 3))
  have HL := Lib.hid hl
  have HR := Lib.hid hr
  have HS := Lib.hid hS
  have HN9 := Lib.hid hn
  unfold maxLen at hn
  clear hl hr hS hb0 hk0 hb2 hk2 hz0
  go_enter Try.func16, Try.ntmps16
  go_wp2_with fail
  rw [← HS.out]
  refine (HW.out _ HB2.out HE2.out).mono ?_
  clear HW HE2
  rintro e v1 ⟨rfl, hb1⟩
  have hbv1 := HB2.out.trans (hb1.mono (by rw [size_alloc', size_alloc', ← HS.out]; omega))
  have hkv1 := HK2.out.below hb1 HK2.out.lt
  have c0 := hkv1.cell 0
  have c1 := hkv1.cell 1
  have HB3 := Lib.hid hbv1
  have HK3 := Lib.hid hkv1
  clear hb1 hbv1 hkv1 HB2 HK2
  by_cases h0 : wrongP N l [s, t] = 0
  · obtain ⟨M, a, b, rfl, rfl, rfl, haM, hbM, hM10, hn30, hg, hnode⟩ := wrong_two h0
    have hfe : farErr (M : Int) l (a : Int) = if fromOk l M a = true then 0 else 5 := if_pos hnode
    simp only [Int.toNat_natCast] at HF
    rw [h0]
    have HZ := Lib.hid h0
    have HG := Lib.hid hg
    rw [HL.out] at hn30
    have hlen : (refO l M a M).length = M := refO_length _ _ _ _
    obtain ⟨O, hO⟩ : ∃ O, O = refO l M a M := ⟨_, rfl⟩
    have HOO := Lib.hid hO
    rw [← hO] at HF hlen
    obtain ⟨ok, hok⟩ : ∃ ok, ok = fromOk l M a := ⟨_, rfl⟩
    have HOK := Lib.hid hok
    rw [← hok] at hfe
    rw [hfe] at HF
    have HFI := HF.out v1 HB3.out
    have HF1 := Lib.hid HFI
    have hM0 : (0 : Int) < (M : Int) := by omega
    clear hg hnode h0 hO hok hfe HF HFI
    by_cases hst : a = b
    · subst hst
      have hab : ((a : Int) == (a : Int)) = true := by simp
      cases ok with
      | false =>
        go_wp2_with fail
        refine HF1.out.mono ?_
        clear HF1
        rintro e v2 ⟨A1, A2, n1, n2, rfl, hb, hbad, hgood⟩
        have HB4 := Lib.hid (HB3.out.trans (hb.mono (by rw [HS.out]; exact HB3.out.size)))
        clear hb hbad hgood
        go_wp2_with fail
        refine bodyPost_ret (v := .tuple #[.slice none 0 0, .int .i64 5]) (by simp [results, Try.results16, go_sem]) rfl ?_
        exact ⟨none, 0, 0, 5, rfl, HB4.out, fun h => absurd HZ.out h, fun N' s' t' _ h1 h2 h3 => ⟨fun _ => ⟨rfl, rfl⟩, fun h => by
          obtain rfl : M = N' := by omega
          obtain rfl : a = s' := by omega
          rw [← HOK.out] at h; cases h⟩⟩
      | true =>
        go_wp2_with fail
        refine HF1.out.mono ?_
        clear HF1
        rintro e v2 ⟨A1, A2, n1, n2, rfl, hb, hbad, hgood⟩
        have HB4 := Lib.hid (HB3.out.trans (hb.mono (by rw [HS.out]; exact HB3.out.size)))
        clear hb hbad hgood
        go_wp2_with fail
        refine bodyPost_ret (v := .tuple #[.slice none 0 0, .int .i64 0]) (by simp [results, Try.results16, go_sem]) rfl ?_
        obtain ⟨hs1, hs2⟩ := size_self HG.out haM HOK.out.symm
        exact ⟨none, 0, 0, 0, rfl, HB4.out, fun h => absurd HZ.out h, fun N' s' t' _ h1 h2 h3 => by
          obtain rfl : M = N' := by omega
          obtain rfl : a = s' := by omega
          obtain rfl : a = t' := by omega
          exact ⟨fun h => (by rw [← HOK.out, hs1] at h; rcases h with h | h <;> cases h), fun _ x _ => ⟨rfl, 0, hs2, rfl, (Own.nil _ 0 3 (c := 1) (f := icell) (fun _ => rfl)).els⟩⟩⟩
    · have hab : ((a : Int) == (b : Int)) = false := by simp; omega
      cases ok with
      | false =>
        go_wp2_with fail
        refine HF1.out.mono ?_
        clear HF1
        rintro e v2 ⟨A1, A2, n1, n2, rfl, hb, hbad, hgood⟩
        have HB4 := Lib.hid (HB3.out.trans (hb.mono (by rw [HS.out]; exact HB3.out.size)))
        clear hb hbad hgood
        go_wp2_with fail
        refine bodyPost_ret (v := .tuple #[.slice none 0 0, .int .i64 5]) (by simp [results, Try.results16, go_sem]) rfl ?_
        exact ⟨none, 0, 0, 5, rfl, HB4.out, fun h => absurd HZ.out h, fun N' s' t' _ h1 h2 h3 => ⟨fun _ => ⟨rfl, rfl⟩, fun h => by
          obtain rfl : M = N' := by omega
          obtain rfl : a = s' := by omega
          rw [← HOK.out] at h; cases h⟩⟩
      | true =>
        go_wp2_with fail
        refine HF1.out.mono ?_
        clear HF1
        rintro e v2 ⟨A1, A2, n1, n2, rfl, hb, hbad, hgood⟩
        obtain ⟨e1, e2, e3, e4⟩ := hgood rfl
        obtain rfl : M = n1 := by omega
        obtain rfl : M = n2 := by omega
        have HB4 := Lib.hid (HB3.out.trans (hb.mono (by rw [HS.out]; exact HB3.out.size)))
        have hk4 := HK3.out.below hb HK3.out.lt
        have hbl : b < (thereL O).length := by rw [thereL_length, hlen]; exact hbM
        obtain ⟨b4, o4, rfl, hb4, g4⟩ := e4.at1 hbl
        rw [← getD_at _ b hbl false, thereL_at] at g4
        have HE3 := Lib.hid e3
        have c0 := hk4.cell 0
        have c1 := hk4.cell 1
        have HK4 := Lib.hid hk4
        have hmm := @run_makeMap Try.prog
        clear hb hbad hgood e1 e2 e3 e4 hbl hk4
        cases hx : og O b with
        | none =>
          rw [hx] at g4
          simp only [Option.isSome_none] at g4
          have HX := Lib.hid hx
          clear hx
          go_wp2_with fail
          refine bodyPost_ret (v := .tuple #[.slice none 0 0, .int .i64 5]) (by simp [results, Try.results16, go_sem]) rfl ?_
          exact ⟨none, 0, 0, 5, rfl, HB4.out, fun h => absurd HZ.out h, fun N' s' t' _ h1 h2 h3 => by
            obtain rfl : M = N' := by omega
            obtain rfl : a = s' := by omega
            obtain rfl : b = t' := by omega
            exact ⟨fun _ => ⟨rfl, rfl⟩, fun _ x h => by rw [← HOO.out, HX.out] at h; cases h⟩⟩
        | some x0 =>
          rw [hx] at g4
          simp only [Option.isSome_some] at g4
          have HX := Lib.hid hx
          clear hx
          obtain ⟨V, hV⟩ : ∃ V, V = v2.heap.size := ⟨_, rfl⟩
          obtain ⟨W3, hp1, hp2, hp3, hp4⟩ := run_put (P := Try.prog) keyL_left Try.underlying79 (MapB.made (kv := leftV) v2) ((b : Int), (0 : Int)) (.int .i64 0)
          have HBW3 : Hid (Below V v2 W3) := Lib.hid (by rw [hV]; exact ((Below.refl _ v2).alloc (Nat.le_refl _) _).grown hp3 (by rw [size_alloc']; omega) (fun g hg => by injection hg with hg; omega))
          rw [← hV] at hp2
          have HM3 := Lib.hid hp2
          have HVV := Lib.hid hV
          clear hp2 hp3 hp4 hV
          go_wp2_with fail
          rw [← HVV.out]
          clear hp1 hmm c0 c1 HK3 HB3
          have hSV : S < V := by rw [HVV.out]; exact HK4.out.lt
          have HFAR : Hid (∀ w' : World, Below V v2 w' → ∃ b5 o5, A1 = some ⟨b5, o5, none⟩ ∧ w'.cell? ⟨b5, o5 + b, none⟩ = some (.int .i64 x0)) := Lib.hid (fun w' hb => by
            obtain ⟨b5, o5, h1, h2, h3⟩ := (HE3.out.below (by rw [← HVV.out]; exact hb)).at1 (k := b) (by rw [farL_length, hlen]; exact hbM)
            rw [← getD_at _ b (by rw [farL_length, hlen]; exact hbM) 0, farL_at, HX.out] at h3
            exact ⟨b5, o5, h1, h3⟩)
          have HBST : Hid (BestL (putK [] ((b : Int), (0 : Int)) (.int .i64 0)) (rowsAt l M b 1 (List.replicate M none))) := Lib.hid (BestL.start hbM)
          have hs0 : og (exO l M b 0) a ≠ some x0 := by
            show og (startO M b) a ≠ _
            rw [startO_at hbM, if_neg (fun h => hst h.symm)]
            exact fun h => by cases h
          have HS0 := Lib.hid hs0
          have HTH : Hid (∃ k, k < M ∧ og (exO l M b k) a = some x0) := Lib.hid (by
            have h := size_there HG.out haM hbM HOK.out.symm (x := x0) (by rw [← HOO.out]; exact HX.out)
            rw [← HOO.out, HX.out] at h
            exact h)
          clear hs0
          go_loopw [17] (fun s17 wr => ∃ (k : Nat) (L : List ((Int × Int) × Value)), 1 ≤ k ∧ k ≤ M ∧ s17 = .int .i64 k ∧ Below V v2 wr ∧ MapB wr V leftV L ∧ BestL L (rowsAt l M b k (List.replicate M none)) ∧ ∀ j, j < k → og (exO l M b j) a ≠ some x0) (fun s17 _ => M - (intOf s17).toNat)
          case atStart => exact ⟨1, _, by omega, by omega, rfl, HBW3.out, HM3.out, HBST.out, fun j hj => by
            obtain rfl : j = 0 := by omega
            exact HS0.out⟩
          case round =>
            clear HBW3 HM3 HBST HS0
            rename World => wr
            obtain ⟨k, L, hk1, hkM, rfl, hb, hm, hbest, hno⟩ := hrel
            have hk0 := HK4.out.below hb hSV
            have c0 := hk0.cell 0
            have c1 := hk0.cell 1
            have hz := hb.size
            rw [← HVV.out] at hz
            have HB := Lib.hid hb
            have HM := Lib.hid hm
            have HBEST := Lib.hid hbest
            have HNO := Lib.hid hno
            clear hb hm hbest hno hk0
            by_cases hlt : k < M
            · obtain ⟨kq, hkq⟩ : ∃ kq, k = kq + 1 := ⟨k - 1, by omega⟩
              have hms : (k : Int) - 1 = (kq : Int) := by omega
              have hmw : IntKind.i64.wrap ((k : Int) - 1) = (kq : Int) := by rw [hms]; exact IntWalk.i64_in _ (by omega)
              have HKQ := Lib.hid hkq
              clear hkq
              go_wp2_with fail
              go_loopw [89] (fun s89 w4 => ∃ (q : Nat) (L : List ((Int × Int) × Value)), q ≤ n ∧ s89 = .int .i64 q ∧ Below V v2 w4 ∧ MapB w4 V leftV L ∧ BestL L (rowsAt l M b k (passR (exO l M b kq) (List.replicate M none) ((l.take q).map revA)))) (fun s89 _ => n - (intOf s89).toNat)
              case atStart => exact ⟨0, L, by omega, rfl, HB.out, HM.out, HBEST.out⟩
              case round =>
                clear HB HM HBEST c0 c1
                rename World => w4
                obtain ⟨q, L, hq, rfl, hb, hm, hbest⟩ := hrel
                have hz4 := hb.size
                rw [← HVV.out] at hz4
                have hk0 := HK4.out.below hb hSV
                have c0 := hk0.cell 0
                have c1 := hk0.cell 1
                by_cases hlk : q < n
                · have hkl : q < l.length := by rw [HL.out]; exact hlk
                  have hbw4 : Below S w w4 := HB4.out.trans (hb.mono (by omega))
                  obtain ⟨b0, off, rfl, hbb, q0, q1, q2, q3⟩ := (HR.out.below hbw4).at4 hkl
                  obtain ⟨e, he⟩ : ∃ e, e = l[q] := ⟨_, rfl⟩
                  have hge : GoodA M e := by rw [he]; exact HG.out _ (List.getElem_mem hkl)
                  have htk : passR (exO l M b kq) (List.replicate M none) ((l.take (q + 1)).map revA) = relS (exO l M b kq) (passR (exO l M b kq) (List.replicate M none) ((l.take q).map revA)) (revA e) := by
                    rw [List.take_succ_eq_append_getElem hkl, ← he, List.map_append, List.map_singleton, passR_snoc]
                  rw [← he] at q0 q1 q2 q3
                  have hbd0 : ∀ v x, og (exO l M b kq) v = some x → -11534336 ≤ x ∧ x ≤ 11534336 := fun v x h => by
                    have := exO_bound HG.out hbM h
                    have := HKQ.out
                    omega
                  obtain ⟨f, hf⟩ := Int.eq_ofNat_of_zero_le hge.f0
                  obtain ⟨tt, htt⟩ := Int.eq_ofNat_of_zero_le hge.t0
                  have hfN : f < M := by have := hge.f1; omega
                  have he0 := hge.e0
                  have he1 := hge.e1
                  rw [hf] at q0
                  rw [htt] at q1
                  obtain ⟨Q, hQ⟩ : ∃ Q, Q = passR (exO l M b kq) (List.replicate M none) ((l.take q).map revA) := ⟨_, rfl⟩
                  have hQl : Q.length = M := by rw [hQ, passR_length, List.length_replicate]
                  rw [← hQ] at htk hbest
                  have hrel : relS (exO l M b kq) Q (revA e) = match og (exO l M b kq) tt with | none => Q | some x => if bestO (og Q f) (x + e.e) = true then Q.set f (some (x + e.e)) else Q := by
                    unfold relS revA
                    rw [hf, htt]
                    rfl
                  rw [hrel] at htk
                  have hg1 := hbest.old tt (j := kq) (by have := HKQ.out; omega)
                  have hg2 := hbest.cur f
                  have hbt := hbd0 tt
                  obtain ⟨ae, hae⟩ : ∃ x, x = e.e := ⟨_, rfl⟩
                  obtain ⟨am, ham⟩ : ∃ x, x = e.m := ⟨_, rfl⟩
                  rw [← hae] at he0 he1 q3 htk
                  rw [← ham] at q2
                  have hE0 := Blk.new w4 70 #[.int .i64 f, .int .i64 tt, .int .i64 am, .int .i64 ae]
                  have e0 := hE0.cell 0
                  have e1 := hE0.cell 1
                  have e3 := hE0.cell 3
                  have hm4 := hm.alloc (.cells #[.int .i64 f, .int .i64 tt, .int .i64 am, .int .i64 ae] 70)
                  have hb5 := hb.alloc hz4 (.cells #[.int .i64 f, .int .i64 tt, .int .i64 am, .int .i64 ae] 70)
                  have hlook1 := run_look (P := Try.prog) keyL_left Try.underlying79 (z := .int .i64 0) (fun u => by kernel_rfl) hm4 ((tt : Int), (kq : Int)) true
                  have hlook2 := run_look (P := Try.prog) keyL_left Try.underlying79 (z := .int .i64 0) (fun u => by kernel_rfl) hm4 ((f : Int), (k : Int)) true
                  rw [hg1] at hlook1
                  rw [hg2] at hlook2
                  simp only [if_true] at hlook1 hlook2
                  obtain ⟨Z, hZ⟩ : ∃ Z, Z = og (exO l M b kq) tt := ⟨_, rfl⟩
                  obtain ⟨X, hX⟩ : ∃ X, X = og Q f := ⟨_, rfl⟩
                  rw [← hZ] at htk hlook1 hbt
                  rw [← hX] at htk hlook2
                  have HTK := Lib.hid htk
                  have HBEST := Lib.hid hbest
                  have HM4 := Lib.hid hm4
                  have HB5 := Lib.hid hb5
                  have HQL := Lib.hid hQl
                  clear hE0 hQ hZ hX hf htt hae ham he hge htk hbd0 hrel hg1 hg2 hbest hm hm4 hb hb5 hbw4 hk0 hQl
                  have hz5 := HB5.out.size
                  rw [← HVV.out] at hz5
                  cases Z with
                  | none =>
                    simp only [Option.map_none, Option.getD_none, Option.isSome_none] at hlook1
                    clear hlook2
                    go_wp2_with fail
                    go_roundw
                    case rel => exact ⟨q + 1, L, by omega, by go_num, HB5.out, HM4.out, by rw [HTK.out]; exact HBEST.out⟩
                    case measure => simp [intOf]; omega
                  | some z =>
                    have hz1 := hbt z rfl
                    have hws : IntKind.i64.wrap (z + ae) = z + ae := IntWalk.i64_in _ (by omega)
                    simp only [Option.map_some, Option.getD_some, Option.isSome_some] at hlook1
                    obtain ⟨W5, hp1, hp2, hp3, hp4⟩ := run_put (P := Try.prog) keyL_left Try.underlying79 HM4.out ((f : Int), (k : Int)) (.int .i64 (z + ae))
                    have HP2 := Lib.hid hp2
                    have HB6 : Hid (Below V v2 W5) := Lib.hid (HB5.out.grown hp3 hz5 (fun g hg => by injection hg with hg; omega))
                    have HBP := Lib.hid (HBEST.out.put (f := f) (by rw [HQL.out]; exact hfN) (z + ae))
                    clear hp2 hp3 hp4
                    cases X with
                    | none =>
                      simp only [Option.map_none, Option.getD_none, Option.isSome_none] at hlook2
                      go_wp2_with fail
                      go_roundw
                      case rel => exact ⟨q + 1, _, by omega, by go_num, HB6.out, HP2.out, by rw [HTK.out]; exact HBP.out⟩
                      case measure => simp [intOf]; omega
                    | some x =>
                      simp only [Option.map_some, Option.getD_some, Option.isSome_some] at hlook2
                      by_cases hlt9 : z + ae < x
                      · have HB9 : Hid (bestO (some x) (z + ae) = true) := Lib.hid (decide_eq_true hlt9)
                        go_wp2_with fail
                        go_roundw
                        case rel => exact ⟨q + 1, _, by omega, by go_num, HB6.out, HP2.out, by rw [HTK.out]; show BestL _ (rowsAt l M b k (if bestO (some x) (z + ae) = true then Q.set f (some (z + ae)) else Q)); rw [if_pos HB9.out]; exact HBP.out⟩
                        case measure => simp [intOf]; omega
                      · have HB9 : Hid (¬ bestO (some x) (z + ae) = true) := Lib.hid (by
                          show ¬ (decide (z + ae < x) = true)
                          simpa using hlt9)
                        clear hp1
                        go_wp2_with fail
                        go_roundw
                        case rel => exact ⟨q + 1, L, by omega, by go_num, HB5.out, HM4.out, by rw [HTK.out]; show BestL _ (rowsAt l M b k (if bestO (some x) (z + ae) = true then Q.set f (some (z + ae)) else Q)); rw [if_neg HB9.out]; exact HBEST.out⟩
                        case measure => simp [intOf]; omega
                · obtain rfl : q = n := by omega
                  rw [List.take_of_length_le (by rw [HL.out]; exact Nat.le_refl _)] at hbest
                  have hcur : passR (exO l M b kq) (List.replicate M none) (l.map revA) = exO l M b k := by rw [HKQ.out]; rfl
                  rw [hcur] at hbest
                  have hlook := run_look (P := Try.prog) keyL_left Try.underlying79 (z := .int .i64 0) (fun u => by kernel_rfl) hm ((a : Int), (k : Int)) true
                  rw [hbest.cur a] at hlook
                  simp only [if_true] at hlook
                  obtain ⟨b5, o5, hA5, c5⟩ := HFAR.out w4 hb
                  subst hA5
                  have HB := Lib.hid hb
                  have HM := Lib.hid hm
                  have HBEST := Lib.hid hbest
                  obtain ⟨Y, hY⟩ : ∃ Y, Y = og (exO l M b k) a := ⟨_, rfl⟩
                  have HY := Lib.hid hY
                  rw [← hY] at hlook
                  clear hb hm hbest hcur hY hk0
                  have hnext : ∀ (hne : Y ≠ some x0), ∀ j, j < k + 1 → og (exO l M b j) a ≠ some x0 := fun hne j hj => by
                    by_cases e : j = k
                    · rw [e, ← HY.out]; exact hne
                    · exact HNO.out j (by omega)
                  have HNX := Lib.hid hnext
                  clear hnext
                  by_cases hyx : Y = some x0
                  · subst hyx
                    simp only [Option.map_some, Option.getD_some, Option.isSome_some] at hlook
                    have hxx : (x0 == x0) = true := by simp
                    clear HNX
                    have hsize : IsSize l M a b k := ⟨by rw [← HOO.out, HX.out, ← HY.out], fun j hj => by rw [← HOO.out, HX.out]; exact HNO.out j hj⟩
                    have HSZ := Lib.hid hsize
                    have HOWN : Hid (Own w4 (V + 1) 3 1 icell none 0 (intsOf [])) := Lib.hid (Own.nil _ _ _ (fun _ => rfl))
                    clear hsize
                    go_wp2_with fail
                    clear c0 c1 hlook c5 hxx
                    go_loopw [26, 27, 28] (fun s26 s27 s28 wr => ∃ (left at_ : Nat) (A2 : Option Addr) (pn cap : Nat) (pl : List Nat), s28 = .int .i64 left ∧ s27 = .int .i64 at_ ∧ s26 = .slice A2 pn cap ∧ pl.length = pn ∧ pn + left ≤ k ∧ wayF l M b k a = pl ++ wayF l M b left at_ ∧ (∃ x, og (exO l M b left) at_ = some x) ∧ Below V v2 wr ∧ MapB wr V leftV L ∧ Own wr (V + 1) 3 1 icell A2 cap (intsOf pl)) (fun _ _ s28 _ => (intOf s28).toNat)
                    case atStart => exact ⟨k, a, none, 0, 0, [], rfl, rfl, rfl, rfl, by omega, rfl, ⟨x0, HY.out.symm⟩, HB.out, HM.out, HOWN.out⟩
                    case round =>
                      clear HB HM HOWN
                      rename World => wr
                      obtain ⟨left, at_, A2, pn, cap, pl, rfl, rfl, rfl, hpl, hpk, hway, hhas, hb, hm, ho⟩ := hrel
                      have hz := hb.size
                      rw [← HVV.out] at hz
                      have hVlt := hm.lt
                      have hk0 := HK4.out.below hb hSV
                      have c0 := hk0.cell 0
                      have c1 := hk0.cell 1
                      have HB := Lib.hid hb
                      have HM := Lib.hid hm
                      have HO := Lib.hid ho
                      have HPL := Lib.hid hpl
                      have HWAY := Lib.hid hway
                      clear hb hm ho hpl hway hk0
                      by_cases hl0 : 0 < left
                      · obtain ⟨lq, hlq⟩ : ∃ lq, left = lq + 1 := ⟨left - 1, by omega⟩
                        obtain ⟨y0, hy0⟩ := hhas
                        have hms2 : (left : Int) - 1 = (lq : Int) := by omega
                        have hmw2 : IntKind.i64.wrap ((left : Int) - 1) = (lq : Int) := by rw [hms2]; exact IntWalk.i64_in _ (by omega)
                        obtain ⟨i, hi, hwi, hbef, hstep, hnx⟩ := way_step HG.out (k := lq) (x := y0) (by rw [← hlq]; exact hy0)
                        rw [← hlq] at hstep
                        obtain ⟨e', he'⟩ : ∃ e', e' = l[i] := ⟨_, rfl⟩
                        rw [← he'] at hwi hstep hnx
                        have HEE := Lib.hid he'
                        clear he'
                        have hWB : ∀ e : Arc, wayB l M b lq at_ e = ((e.f.toNat == at_) && nextB (og (exO l M b lq) e.t.toNat) y0 e.e) := fun e => wayB_next (by rw [← hlq]; exact hy0) e
                        have hin : i < q := by rw [← HL.out]; exact hi
                        have hgl := HBEST.out.old
                        have hg2 : getK L ((at_ : Int), (left : Int)) = some (.int .i64 y0) := by
                          rw [HBEST.out at_ left]
                          unfold rowsAt
                          by_cases e : left < k
                          · rw [if_pos e, hy0]; rfl
                          · rw [if_neg e, if_pos (by omega), show k = left by omega, hy0]; rfl
                        have hg1 : ∀ v : Nat, getK L ((v : Int), (lq : Int)) = (og (exO l M b lq) v).map fun x => .int .i64 x := fun v => HBEST.out.old v (by omega)
                        have HWI := Lib.hid hwi
                        have HBEF := Lib.hid hbef
                        have HSTEP := Lib.hid hstep
                        have HNX := Lib.hid hnx
                        have HG1 := Lib.hid hg1
                        have HG2 := Lib.hid hg2
                        have HWB := Lib.hid hWB
                        have HLQ := Lib.hid hlq
                        have HII := Lib.hid hi
                        clear hwi hbef hstep hnx hg1 hg2 hWB hlq hy0 hgl
                        go_wp2_with fail
                        go_loopw [26, 27, 160] (fun s26 s27 s160 w5 => ∃ (r : Nat), r ≤ i ∧ s26 = .slice A2 pn cap ∧ s27 = .int .i64 at_ ∧ s160 = .int .i64 r ∧ Below V v2 w5 ∧ MapB w5 V leftV L ∧ Own w5 (V + 1) 3 1 icell A2 cap (intsOf pl)) (fun _ _ s160 _ => q - (intOf s160).toNat)
                        case atStart => exact ⟨0, by omega, rfl, rfl, rfl, HB.out, HM.out, HO.out⟩
                        case round =>
                          clear HB HM HO c0 c1 hz hVlt
                          rename World => w5
                          obtain ⟨r, hri, rfl, rfl, rfl, hb, hm, ho⟩ := hrel
                          have hz := hb.size
                          rw [← HVV.out] at hz
                          have hVlt := hm.lt
                          have hrq : r < q := by omega
                          have hkl : r < l.length := by rw [HL.out]; exact hrq
                          have hbw5 : Below S w w5 := HB4.out.trans (hb.mono (by omega))
                          obtain ⟨b0, off, hA0, hbb, q0, q1, q2, q3⟩ := (HR.out.below hbw5).at4 hkl
                          subst hA0
                          obtain ⟨e, he⟩ : ∃ e, e = l[r] := ⟨_, rfl⟩
                          have hge : GoodA M e := by rw [he]; exact HG.out _ (List.getElem_mem hkl)
                          have hbr : r < i → wayB l M b lq at_ e = false := fun h => by rw [he]; exact HBEF.out r hkl h
                          have hbi : r = i → wayB l M b lq at_ e = true := fun h => by
                            have h2 : e = e' := by subst h; rw [he, HEE.out]
                            rw [h2]; exact HWI.out
                          rw [← he] at q0 q1 q2 q3
                          obtain ⟨f, hf⟩ := Int.eq_ofNat_of_zero_le hge.f0
                          obtain ⟨tt, htt⟩ := Int.eq_ofNat_of_zero_le hge.t0
                          have hwb := HWB.out e
                          have hbd0 : ∀ x, og (exO l M b lq) tt = some x → -11534336 ≤ x ∧ x ≤ 11534336 := fun x h => by
                            have := exO_bound HG.out hbM h
                            omega
                          have he0 := hge.e0
                          have he1 := hge.e1
                          rw [hf] at q0
                          rw [htt] at q1
                          rw [hf, htt] at hwb
                          rw [hwb] at hbr hbi
                          have het : r = i → e'.t.toNat = tt := fun h => by
                            have h2 : e = e' := by subst h; rw [he, HEE.out]
                            rw [← h2, htt]; rfl
                          have HET := Lib.hid het
                          obtain ⟨ae, hae⟩ : ∃ x, x = e.e := ⟨_, rfl⟩
                          obtain ⟨am, ham⟩ : ∃ x, x = e.m := ⟨_, rfl⟩
                          rw [← hae] at he0 he1 q3 hbr hbi
                          rw [← ham] at q2
                          have hE0 := Blk.new w5 70 #[.int .i64 f, .int .i64 tt, .int .i64 am, .int .i64 ae]
                          have e0 := hE0.cell 0
                          have e1 := hE0.cell 1
                          have e3 := hE0.cell 3
                          obtain ⟨W6, hW6⟩ : ∃ W6, W6 = w5.alloc (.cells #[.int .i64 f, .int .i64 tt, .int .i64 am, .int .i64 ae] 70) := ⟨_, rfl⟩
                          have hm6 : MapB W6 V leftV L := by rw [hW6]; exact hm.alloc _
                          have hb6 : Below V v2 W6 := by rw [hW6]; exact hb.alloc hz _
                          have ho6 : Own W6 (V + 1) 3 1 icell A2 cap (intsOf pl) := by rw [hW6]; exact ho.alloc _
                          have hlook1 := run_look (P := Try.prog) keyL_left Try.underlying79 (z := .int .i64 0) (fun u => by kernel_rfl) hm6 ((tt : Int), (lq : Int)) true
                          have hlook2 := run_look (P := Try.prog) keyL_left Try.underlying79 (z := .int .i64 0) (fun u => by kernel_rfl) hm6 ((at_ : Int), (left : Int)) false
                          rw [HG1.out tt] at hlook1
                          rw [HG2.out] at hlook2
                          simp only [if_true, Bool.false_eq_true, if_false, Option.getD_some] at hlook1 hlook2
                          rw [hW6] at hlook1 hlook2
                          obtain ⟨Z, hZ⟩ : ∃ Z, Z = og (exO l M b lq) tt := ⟨_, rfl⟩
                          rw [← hZ] at hlook1 hbd0
                          have hbr2 : r < i → ((((f : Int).toNat == at_) && nextB Z y0 ae) = false) := fun h => by rw [hZ]; exact hbr h
                          have hbi2 : r = i → ((((f : Int).toNat == at_) && nextB Z y0 ae) = true) := fun h => by rw [hZ]; exact hbi h
                          have HBR := Lib.hid hbr2
                          have HBI := Lib.hid hbi2
                          have HM6 := Lib.hid hm6
                          have HB6 := Lib.hid hb6
                          have HO6 := Lib.hid ho6
                          have HW6 := Lib.hid hW6
                          have hz6 := hb6.size
                          rw [← HVV.out] at hz6
                          have hz66 : W6.heap.size = w5.heap.size + 1 := by rw [hW6, size_alloc']
                          have hE6 : Blk W6 w5.heap.size 70 #[.int .i64 f, .int .i64 tt, .int .i64 am, .int .i64 ae] := by rw [hW6]; exact hE0
                          have HE6 := Lib.hid hE6
                          clear hE0 hE6 hZ hf htt hae ham he hge hwb hbr hbi hbr2 hbi2 hb hm ho hb6 hm6 ho6 hW6 het hbw5
                          by_cases hfa : f = at_
                          · have hfa1 : ((f : Int) == (at_ : Int)) = true := by simp [hfa]
                            have HFA := Lib.hid hfa
                            clear hfa
                            cases Z with
                            | none =>
                              simp only [Option.map_none, Option.getD_none, Option.isSome_none] at hlook1
                              have hrl : r < i := by
                                rcases Nat.lt_or_ge r i with h | h
                                · exact h
                                · have := HBI.out (by omega)
                                  rw [show nextB none y0 ae = false from rfl, Bool.and_false] at this
                                  cases this
                              go_wp2_with fail
                              rw [← HW6.out]
                              go_roundw
                              case rel => exact ⟨r + 1, by omega, rfl, rfl, by go_num, HB6.out, HM6.out, HO6.out⟩
                              case measure => simp [intOf]; omega
                            | some z =>
                              simp only [Option.map_some, Option.getD_some, Option.isSome_some] at hlook1
                              have hz1 := hbd0 z rfl
                              have hws : IntKind.i64.wrap (z + ae) = z + ae := IntWalk.i64_in _ (by omega)
                              by_cases hyz : z + ae = y0
                              · have hyz1 : ((z + ae) == y0) = true := by simp [hyz]
                                have hri2 : r = i := by
                                  refine Classical.byContradiction fun hne => ?_
                                  have := HBR.out (by omega)
                                  rw [HFA.out, nextB_some, ← hyz] at this
                                  simp at this
                                have HRI := Lib.hid hri2
                                clear hyz hri2
                                go_wp2_with fail
                                rw [← HW6.out]
                                have hC0 : Below V v2 W6.drew := HB6.out.drew
                                obtain ⟨T, hT⟩ : ∃ T, T = w5.heap.size := ⟨_, rfl⟩
                                have hk6 : Blk W6 T 70 #[.int .i64 f, .int .i64 tt, .int .i64 am, .int .i64 ae] := by rw [hT]; exact HE6.out
                                have hT6 : W6.heap.size = T + 1 := by rw [hT]; exact hz66
                                rw [← hT]
                                have HE7 := Lib.hid hk6
                                have HT6 := Lib.hid hT6
                                have hV6 : V + 1 ≤ W6.heap.size := by have := HM6.out.lt; omega
                                have HNB : Hid (Blk (W6.alloc (.cells #[.int .i64 r] 3)).drew W6.heap.size 3 #[.int .i64 r]) := Lib.hid (Blk.new _ _ _).drew
                                have HO7 : Hid (Own (W6.alloc (.cells #[.int .i64 r] 3)).drew (V + 1) 3 1 icell A2 cap (intsOf pl)) := Lib.hid (HO6.out.alloc _).drew
                                have HB7 : Hid (Below V v2 (W6.alloc (.cells #[.int .i64 r] 3)).drew) := Lib.hid (HB6.out.alloc hz6 _).drew
                                have HM7 : Hid (MapB (W6.alloc (.cells #[.int .i64 r] 3)).drew V leftV L) := Lib.hid (HM6.out.alloc _).drew
                                have hT7 : (W6.alloc (.cells #[.int .i64 r] 3)).drew.heap.size = T + 2 := by show (W6.alloc _).heap.size = _; rw [size_alloc', hT6]
                                have HT7 := Lib.hid hT7
                                have he8 : intsOf pl ++ [(r : Int)] = intsOf (pl ++ [r]) := by simp [intsOf]
                                have HE8 := Lib.hid he8
                                have HE9 : Hid (Blk (W6.alloc (.cells #[.int .i64 r] 3)).drew T 70 #[.int .i64 f, .int .i64 tt, .int .i64 am, .int .i64 ae]) := Lib.hid (hk6.alloc _).drew
                                have HHL : Hid ((intsOf pl).length = pn) := Lib.hid (by rw [intsOf, List.length_map]; exact HPL.out)
                                clear hT hk6 HE6 e0 e1 e3 hT6 hT7 he8 hz66
                                refine region_plain 7 8 (fun w' => w'.cell? ⟨T, 1, none⟩ = some (.int .i64 tt)) (by kernel_rfl) rfl ?_
                                refine anyC_reads (by kernel_rfl) [0, 1, 4, 5] ?opz ?ohz 4 _ _ _ (by kernel_rfl) ?okz
                                case ohz => (simp only [List.filterMap_cons, List.filterMap_nil, List.getElem?_toArray, List.getElem?_cons_zero, List.getElem?_cons_succ]; try rfl)
                                repeat (
                                  refine readC_step (v := ?_) rfl (fun w' hw' => ?_) ?_
                                  rotate_left
                                  focus (have p1 := hw'; go_simp; try with_reducible rfl)
                                  go_simp)
                                refine readC_nil ?_
                                refine anyC_one (i := 2) (by kernel_rfl) rfl rfl (.inr (HE7.out.drew.cell 1)) ?_
                                go_simp
                                refine anyC_one (i := 3) (by kernel_rfl) rfl rfl (.inr (HE9.out.cell 1)) ?_
                                refine wp_append_els _ _ 23 rfl (V + 1) 1 3 (.int .i64 0) 8 Try.underlying23 (by kernel_rfl) rfl (by omega) icell _ A2 pn cap (intsOf pl) HHL.out rfl HO7.out _ 1 1 [(r : Int)] rfl rfl _ (els_of_blk HNB.out 1 icell (fun _ => rfl) [(r : Int)] rfl) (by simp [Value.oneCell']) (by unfold maxLen; omega) (by omega) (by rw [HT7.out]; have := HT6.out; omega) ?_
                                intro A3 cap3 w7 hown3 hgrow3 hloc3
                                rw [HE8.out] at hown3
                                have hb8 := HB7.out.grown hgrow3 (by rw [HT7.out]; have := HT6.out; omega) (fun g hg => by have := (HO7.out.lt g hg).1; omega)
                                have hm8 := HM7.out.grown hgrow3 (fun e => by have := (HO7.out.lt V e.symm).1; omega)
                                have hc8 := (HE9.out.grown hgrow3 (HO7.out.ne_blk HE9.out (by decide))).cell 1
                                have HC8 : Hid (w7.cell? ⟨T, 1, none⟩ = some (.int .i64 tt)) := Lib.hid hc8
                                have HB8 := Lib.hid hb8
                                have HM8 := Lib.hid hm8
                                have HO8 := Lib.hid hown3
                                clear hown3 hgrow3 hloc3 hb8 hm8 hc8
                                go_simp
                                refine anyC_one (i := 6) (by kernel_rfl) rfl rfl (.inr HC8.out) ?_
                                go_simp
                                refine anyC_one (i := 7) (by kernel_rfl) rfl rfl (.inr HC8.out) ?_
                                go_simp
                                refine anyC_end (by kernel_rfl) (.inl rfl) ?_
                                go_wp2_with fail
                                go_roundw
                                case rel => exact ⟨lq, tt, A3, pn + 1, cap3, pl ++ [r], by go_num, rfl, rfl, by rw [List.length_append, HPL.out]; rfl, by omega, by rw [HWAY.out, HSTEP.out, HET.out HRI.out, ← HRI.out, List.append_assoc]; rfl, by rw [← HET.out HRI.out]; exact HNX.out, HB8.out, HM8.out, HO8.out⟩
                                case measure => simp [intOf]; omega
                              · have hyz1 : ((z + ae) == y0) = false := by simpa using hyz
                                have hrl : r < i := by
                                  rcases Nat.lt_or_ge r i with h | h
                                  · exact h
                                  · have := HBI.out (by omega)
                                    rw [Bool.and_eq_true] at this
                                    have h3 := this.2
                                    rw [nextB_some] at h3
                                    have h2 : y0 = z + ae := beq_iff_eq.1 h3
                                    exact absurd h2.symm hyz
                                clear hyz
                                go_wp2_with fail
                                rw [← HW6.out]
                                go_roundw
                                case rel => exact ⟨r + 1, by omega, rfl, rfl, by go_num, HB6.out, HM6.out, HO6.out⟩
                                case measure => simp [intOf]; omega
                          · have hfa1 : ((f : Int) == (at_ : Int)) = false := by simp; omega
                            have hrl : r < i := by
                              rcases Nat.lt_or_ge r i with h | h
                              · exact h
                              · have := HBI.out (by omega)
                                rw [Bool.and_eq_true] at this
                                have h2 : (f : Int).toNat = at_ := beq_iff_eq.1 this.1
                                exact absurd (by omega) hfa
                            clear hfa
                            cases Z with
                            | none =>
                              simp only [Option.map_none, Option.getD_none, Option.isSome_none] at hlook1
                              go_wp2_with fail
                              rw [← HW6.out]
                              go_roundw
                              case rel => exact ⟨r + 1, by omega, rfl, rfl, by go_num, HB6.out, HM6.out, HO6.out⟩
                              case measure => simp [intOf]; omega
                            | some z =>
                              simp only [Option.map_some, Option.getD_some, Option.isSome_some] at hlook1
                              go_wp2_with fail
                              rw [← HW6.out]
                              go_roundw
                              case rel => exact ⟨r + 1, by omega, rfl, rfl, by go_num, HB6.out, HM6.out, HO6.out⟩
                              case measure => simp [intOf]; omega
                      · obtain rfl : left = 0 := by omega
                        have hfin : wayF l M b k a = pl := by rw [HWAY.out]; simp [wayF]
                        have HFIN := Lib.hid hfin
                        clear hfin
                        go_wp2_with fail
                        refine bodyPost_ret (v := .tuple #[.slice A2 pn cap, .int .i64 0]) (by simp [results, Try.results16, go_sem]) rfl ?_
                        refine ⟨A2, pn, cap, 0, rfl, HB4.out.trans (HB.out.mono (by omega)), fun h => absurd HZ.out h, fun N' s' t' _ h1 h2 h3 => ?_⟩
                        obtain rfl : M = N' := by omega
                        obtain rfl : a = s' := by omega
                        obtain rfl : b = t' := by omega
                        exact ⟨fun h => (by rw [← HOK.out, ← HOO.out, HX.out] at h; rcases h with h | h <;> cases h), fun _ x _ => ⟨rfl, k, HSZ.out, by rw [HFIN.out, HPL.out], by rw [HFIN.out]; exact HO.out.els⟩⟩
                  · cases Y with
                    | none =>
                      simp only [Option.map_none, Option.getD_none, Option.isSome_none] at hlook
                      have HNX2 := Lib.hid (HNX.out hyx)
                      clear HNX hyx
                      go_wp2_with fail
                      go_roundw
                      case rel => exact ⟨k + 1, L, by omega, by omega, by go_num, HB.out, HM.out, HBEST.out.next, HNX2.out⟩
                      case measure => simp [intOf]; omega
                    | some y =>
                      simp only [Option.map_some, Option.getD_some, Option.isSome_some] at hlook
                      have hne : (y == x0) = false := by
                        simp only [beq_eq_false_iff_ne]
                        exact fun h => hyx (by rw [h])
                      have HNX2 := Lib.hid (HNX.out hyx)
                      clear HNX hyx
                      go_wp2_with fail
                      go_roundw
                      case rel => exact ⟨k + 1, L, by omega, by omega, by go_num, HB.out, HM.out, HBEST.out.next, HNX2.out⟩
                      case measure => simp [intOf]; omega
            · exfalso
              obtain ⟨j, hj, he⟩ := HTH.out
              exact HNO.out j (by omega) he
  · have h1 : (wrongP N l [s, t] != 0) = true := by simpa using h0
    obtain ⟨x, hx⟩ : ∃ x, x = wrongP N l [s, t] := ⟨_, rfl⟩
    rw [← hx] at h1 ⊢
    have HX := Lib.hid hx
    have H0 := Lib.hid h0
    clear h0 hx HF
    go_wp2_with fail
    refine bodyPost_ret (v := .tuple #[.slice none 0 0, .int .i64 x]) (by simp [results, Try.results16, go_sem]) rfl ?_
    exact ⟨none, 0, 0, x, rfl, HB3.out, fun _ => ⟨rfl, HX.out⟩, fun N' s' t' h => absurd h H0.out⟩
end Go.Proofs.Ytfaifadfilndmaa
