/- Work for many hands: who gets what, by the program and by the reference. Conditions: the times and the order read as lists. -/
import Derived.Test.YtkfomboihnfajaaSplitA
import Derived.Test.YtkfomboihnfajaaIndex
import Derived.Test.YtkfomboihnfajaaInBox
import Derived.Laws.EntriesVeiled
namespace Go.Proofs.Ytkfomboihnfajaa
open Go.RowKit

set_option maxRecDepth 100000 in
set_option maxHeartbeats 1000000 in
theorem split_give (sz od : List Int) (H : Nat) (A B : Option Addr) (n m c d : Nat) (w : World) (hn : sz.length = n) (hm : od.length = m) (h8 : n ≤ 8) (hm8 : m ≤ 8) (hH : 1 ≤ H) (hH4 : H ≤ 4) (hb : ∀ i, 0 ≤ sz.getD i 0 ∧ sz.getD i 0 ≤ 1048576)
    (ho : ∀ x ∈ od, 0 ≤ x ∧ x < n) (hnd : od.Nodup) (hr : Els w w.heap.size 1 icell A sz) (hd : Els w w.heap.size 1 icell B od) :
    Calls Try.prog 25 #[.slice A n c, .int .i64 H, .slice B m d] w fun e w' => ∃ A' cap, e = .returned (.tuple #[.slice A' n cap, .int .i64 (mxF (fun h => inB sz (givR sz H od) h) H)]) ∧ Below w.heap.size w w' ∧ Els w' w'.heap.size 1 icell A' (filled (givR sz H od)) := by
  have HN := Lib.hid hn
  have HM := Lib.hid hm
  have HB := Lib.hid hb
  have HO := Lib.hid ho
  have HND := Lib.hid hnd
  have HR := Lib.hid hr
  have HD := Lib.hid hd
  have HINV := Lib.hid (givR_inv (H := H) hn (by omega) hnd ho)
  have HFREE := Lib.hid (fun k i hk hi hin => givR_free (H := H) (k := k) (i := i) hn (by omega) hnd ho hk hi hin)
  clear hn hm hb ho hr hd hnd
  go_enter Try.func25, Try.ntmps25
  go_wp2_with (first
    | (at_make; refine wpList_make1 rfl _ _ _ rfl w.heap.size 2 8 (fun x => .int .i64 x) 0 Try.underlying22 (by kernel_rfl) rfl w .i64 .i64 H rfl rfl (by omega) (by unfold maxLen; omega) (Nat.le_refl _) ?_; intro v1 hown1 hgrow1; have hsz1 := hgrow1.size; have hlt1 := (hown1.lt w.heap.size rfl).2)
    | (at_make; refine wpList_make1 rfl _ _ _ rfl v1.heap.size 3 8 (fun x => .int .i64 x) 0 Try.underlying23 (by kernel_rfl) rfl v1 .i64 .i64 n rfl rfl (by omega) (by unfold maxLen; omega) (Nat.le_refl _) ?_; intro v2 hown2 hgrow2))
  obtain ⟨S, hS⟩ : ∃ S, S = w.heap.size := ⟨_, rfl⟩
  obtain ⟨T, hT⟩ : ∃ T, T = v1.heap.size := ⟨_, rfl⟩
  have hST : S < T := by omega
  have hSw : w.heap.size ≤ S := by omega
  have hb1 := (Below.refl w.heap.size w).grown hgrow1 (Nat.le_refl _) (fun g hg => by cases hg)
  have HB0 := Lib.hid (hb1.grown hgrow2 hsz1 (fun g hg => by cases hg))
  have HH0 : Hid (Own v2 S 2 1 icell (some ⟨S, 0, none⟩) H (hasL sz (givR sz H (od.take 0)) H)) := by
    show Own v2 S 2 1 icell (some ⟨S, 0, none⟩) H (hasL sz (givR sz H (od.take 0)) H)
    have e : givR sz H (od.take 0) = List.replicate n (-1) := by rw [← HN.out]; rfl
    rw [e, has_start, hS]
    exact hown1.kept hgrow2 (.inr (by simp [blkOf]))
  have HL0 : Hid (Own v2 T 3 1 icell (some ⟨T, 0, none⟩) n (filled (givR sz H (od.take 0)))) := by
    show Own v2 T 3 1 icell (some ⟨T, 0, none⟩) n (filled (givR sz H (od.take 0)))
    have e : givR sz H (od.take 0) = List.replicate n (-1) := by rw [← HN.out]; rfl
    rw [e, show filled (List.replicate n (-1 : Int)) = List.replicate n 0 from by simp [filled], hT]
    exact hown2
  rw [← hS, ← hT]
  clear hown1 hgrow1 hown2 hgrow2 hb1 hsz1 hlt1 hT hS
  go_loopw [20] (fun i wr => ∃ q : Nat, q ≤ m ∧ i = .int .i64 q ∧ Below w.heap.size w wr ∧ Own wr S 2 1 icell (some ⟨S, 0, none⟩) H (hasL sz (givR sz H (od.take q)) H) ∧ Own wr T 3 1 icell (some ⟨T, 0, none⟩) n (filled (givR sz H (od.take q)))) (fun i _ => m - (intOf i).toNat)
  case atStart => exact ⟨0, by omega, rfl, HB0.out, HH0.out, HL0.out⟩
  case round =>
    clear HB0 HH0 HL0
    rename World => wr
    obtain ⟨q, hq, rfl, hb, hhas, hlist⟩ := hrel
    have hsz := hb.size
    have HBL := Lib.hid hb
    have HH := Lib.hid hhas
    have HLI := Lib.hid hlist
    clear hb hhas hlist
    obtain ⟨hpl, _⟩ := HINV.out q (by rw [HM.out]; exact hq)
    obtain ⟨R, hR⟩ : ∃ R, R = givR sz H (od.take q) := ⟨_, rfl⟩
    have hbd := fun j => inB_bounds (sz := sz) (R := R) (n := n) (by rw [hR]; exact hpl.len) h8 HB.out j
    rw [← hR] at hpl HH HLI
    have HPL := Lib.hid hpl
    have HRR := Lib.hid hR
    have HBD := Lib.hid hbd
    clear hpl hbd
    by_cases hlt : q < m
    · have hqo : q < od.length := by rw [HM.out]; exact hlt
      obtain ⟨b, off, rfl, _, g0⟩ := (HD.out.below HBL.out).at1 hqo
      have hox := HO.out _ (List.getElem_mem hqo)
      have hsn := givR_snoc sz H (od.take q) od[q]
      rw [← List.take_succ_eq_append_getElem hqo, ← hR] at hsn
      have hfr := fun i hi hin => HFREE.out q i hqo hi hin
      rw [← hR] at hfr
      obtain ⟨x0, hx0⟩ : ∃ x0, x0 = od[q] := ⟨_, rfl⟩
      rw [← hx0] at g0 hox hsn hfr
      obtain ⟨i, rfl⟩ := Int.eq_ofNat_of_zero_le hox.1
      have hin : i < n := by omega
      have hno := hfr i rfl hin
      have his : i < sz.length := by rw [HN.out]; exact hin
      obtain ⟨b', off', rfl, _, g1⟩ := (HR.out.below HBL.out).at1 his
      rw [← getD_at sz i his 0] at g1
      have hbi := HB.out i
      have hmin := has_min sz R (H := H) (by omega)
      have hidx := has_idx sz R (H := H) (by omega)
      have hle := amF_le (fun h : Nat => inB sz R h) (H - 1)
      unfold giveS at hsn
      rw [Int.toNat_natCast] at hsn
      have hset := hasL_set HPL.out sz (i := i) (k := amF (fun h : Nat => inB sz R h) (H - 1)) (H := H) hin hno (by omega)
      obtain ⟨k, hk⟩ : ∃ k, k = amF (fun h : Nat => inB sz R h) (H - 1) := ⟨_, rfl⟩
      rw [← hk] at hmin hidx hle hsn hset
      have hbk := HBD.out k
      have hget := hasL_get sz R (H := H) (h := k) (by omega)
      obtain ⟨x, hx⟩ : ∃ x, x = sz.getD i 0 := ⟨_, rfl⟩
      rw [← hx] at g1 hbi hset
      obtain ⟨z, hz⟩ : ∃ z, z = inB sz R k := ⟨_, rfl⟩
      rw [← hz] at hmin hidx hbk hset hget
      have hlH := hasL_length sz R H
      have HMN := Lib.hid (Min_longs (some ⟨S, 0, none⟩) H H (hasL sz R H) wr.heap.size wr hlH (by omega) (by unfold maxLen; omega) HH.out.els)
      have HIX := Lib.hid (Index_longs z (some ⟨S, 0, none⟩) H H (hasL sz R H) wr.heap.size wr hlH (by unfold maxLen; omega) HH.out.els)
      have hkH : k < (hasL sz R H).length := by rw [hlH]; omega
      obtain ⟨g1', hg1', _, _, ca, fa⟩ := HH.out.cell1 (f := fun x => .int .i64 x) (k := k) hkH
      obtain rfl : S = g1' := by simpa using hg1'
      rw [← getD_at (hasL sz R H) k hkH 0, hget] at ca
      have hH2 := HH.out.put1 (f := fun x => .int .i64 x) (k := k) (x := z + x) hkH
      rw [hset] at hH2
      have hL2 := HLI.out.far (p := ⟨S, k, none⟩) (show blkOf (some ⟨T, 0, none⟩) ≠ some S by simp [blkOf]; omega) (.int .i64 (z + x))
      have hfl : i < (filled R).length := by unfold filled; rw [List.length_map, HPL.out.len]; exact hin
      obtain ⟨g2', hg2', _, _, cl, fl⟩ := hL2.cell1 (f := fun x => .int .i64 x) (k := i) hfl
      obtain rfl : T = g2' := by simpa using hg2'
      generalize (filled R)[i] = v0 at cl
      have hL3 := hL2.put1 (f := fun x => .int .i64 x) (k := i) (x := (k : Int)) hfl
      rw [← filled_set] at hL3
      have hH3 := hH2.far (p := ⟨T, i, none⟩) (show blkOf (some ⟨S, 0, none⟩) ≠ some T by simp [blkOf]; omega) (.int .i64 (k : Int))
      have HH3 := Lib.hid hH3
      have HL3 := Lib.hid hL3
      have HSN := Lib.hid hsn
      have HMIN := Lib.hid hmin
      have HIDX := Lib.hid hidx
      have hw : IntKind.i64.wrap (z + x) = z + x := IntWalk.i64_in _ (by omega)
      have hkH' : k < H := by omega
      clear hmin hidx hsn hset hget hlH hH2 hL2 hfl hL3 hH3 hno hfr hx0 hx hz hk hg1' hg2' hR hle
      go_wp2_with fail
      refine HMN.out.mono ?_
      clear HMN
      rintro e w' ⟨rfl, rfl⟩
      rw [HMIN.out]
      go_wp2_with fail
      refine HIX.out.mono ?_
      clear HIX
      rintro e w' ⟨rfl, rfl⟩
      rw [HIDX.out]
      go_wp2_with fail
      go_region
      go_wp2_with fail
      go_roundw
      case rel =>
        refine ⟨q + 1, by omega, by go_num, ?_, ?_, ?_⟩
        · exact ((HBL.out.setCell (show w.heap.size ≤ S by omega) _).setCell (show w.heap.size ≤ T by omega) _).drew
        · rw [HSN.out]; exact HH3.out
        · rw [HSN.out]; exact HL3.out
      case measure => simp [intOf]; omega
    · obtain rfl : q = m := by omega
      have hall : od.take q = od := List.take_of_length_le (by rw [HM.out]; omega)
      rw [hall] at hR
      have hlH := hasL_length sz R H
      have hmx := has_max sz R H
      have HMX := Lib.hid (Max_longs (some ⟨S, 0, none⟩) H H (hasL sz R H) wr.heap.size wr hlH (by omega) (by unfold maxLen; omega) (fun j => by
        by_cases hj : j < H
        · rw [hasL_get sz R hj]; exact (HBD.out j).1
        · have : (hasL sz R H).getD j 0 = 0 := by simp [List.getD_eq_getElem?_getD, hlH, show H ≤ j by omega]
          omega) HH.out.els)
      have HMXE := Lib.hid hmx
      have HREQ := Lib.hid hR
      clear hall hlH hmx hR
      go_wp2_with fail
      refine HMX.out.mono ?_
      clear HMX
      rintro e w' ⟨rfl, rfl⟩
      rw [HMXE.out]
      obtain ⟨mx, hmx⟩ : ∃ mx, mx = mxF (fun h : Nat => inB sz R h) H := ⟨_, rfl⟩
      rw [← hmx]
      have HMX2 := Lib.hid hmx
      clear hmx
      go_wp2_with fail
      refine bodyPost_ret (v := .tuple #[.slice (some ⟨T, 0, none⟩) n n, .int .i64 mx]) (by simp [results, Try.results25, go_sem]) rfl ?_
      refine ⟨some ⟨T, 0, none⟩, n, by rw [HMX2.out, HREQ.out], HBL.out, ?_⟩
      rw [← HREQ.out]
      exact HLI.out.els

set_option maxRecDepth 100000 in
set_option maxHeartbeats 1000000 in
theorem ref_Given (sz od : List Int) (H : Nat) (A B : Option Addr) (n m c d : Nat) (w : World) (hn : sz.length = n) (hm : od.length = m) (h8 : n ≤ 8) (hm8 : m ≤ 8) (hH : 1 ≤ H) (hH4 : H ≤ 4) (hb : ∀ i, 0 ≤ sz.getD i 0 ∧ sz.getD i 0 ≤ 1048576)
    (ho : ∀ x ∈ od, 0 ≤ x ∧ x < n) (hnd : od.Nodup) (hr : Els w w.heap.size 1 icell A sz) (hd : Els w w.heap.size 1 icell B od) :
    Calls Try.prog 12 #[.slice A n c, .int .i64 H, .slice B m d] w fun e w' => ∃ A' cap, e = .returned (.slice A' n cap) ∧ Below w.heap.size w w' ∧ Els w' w'.heap.size 1 icell A' (givR sz H od) := by
  have HN := Lib.hid hn
  have HM := Lib.hid hm
  have HB := Lib.hid hb
  have HO := Lib.hid ho
  have HR := Lib.hid hr
  have HD := Lib.hid hd
  have HINV := Lib.hid (givR_inv (H := H) hn (by omega) hnd ho)
  clear hn hm hb ho hr hd hnd
  go_enter Try.func12, Try.ntmps12
  go_wp2_with fail
  go_loopw [14, 7] (fun i s wr => ∃ (k : Nat) (A1 : Option Addr) (cap : Nat), k ≤ n ∧ i = .int .i64 k ∧ s = .slice A1 k cap ∧ Below w.heap.size w wr ∧ Own wr w.heap.size 3 1 icell A1 cap (List.replicate k (-1 : Int))) (fun i _ _ => n - (intOf i).toNat)
  case atStart => exact ⟨0, none, 0, by omega, rfl, rfl, Below.refl _ _, Own.nil _ _ _ (fun _ => rfl)⟩
  case round =>
    rename World => wr
    obtain ⟨k, A1, cap, hk, rfl, rfl, hbl, hown⟩ := hrel
    have hs4 := hbl.size
    have HOW := Lib.hid hown
    have HBL := Lib.hid hbl
    clear hown hbl
    by_cases hlt : k < n
    · go_wp2_with (at_builtin; go_must (
        refine wpList_push rfl _ _ _ rfl w.heap.size 1 3 (.int .i64 0) 8 Try.underlying23 (by kernel_rfl) rfl (by omega) icell wr #[.int .i64 (-1)] A1 k cap (List.replicate k (-1 : Int)) (List.length_replicate ..) rfl HOW.out 1 [(-1 : Int)] rfl rfl wr.heap.size rfl rfl (by simp [Value.oneCell']) (by unfold maxLen; omega) (by omega) hs4 ?_
        intro A2 cap2 w4 hown2 hgrow hloc))
      go_roundw
      case rel => exact ⟨k + 1, A2, cap2, by omega, by go_num, rfl, (HBL.out.alloc hs4 _).grown hgrow (by rw [size_alloc']; omega) (fun g hg => (HOW.out.lt g hg).1), by rw [List.replicate_succ']; exact hown2⟩
      case measure => simp [intOf]; omega
    · obtain rfl : k = n := by omega
      have HH0 : Hid (Own wr w.heap.size 3 1 icell A1 cap (givR sz H (od.take 0))) := by
        show Own wr w.heap.size 3 1 icell A1 cap (givR sz H (od.take 0))
        have e : givR sz H (od.take 0) = List.replicate k (-1) := by rw [← HN.out]; rfl
        rw [e]
        exact HOW.out
      clear HOW
      go_wp2_with fail
      go_loopw [22] (fun i wi => ∃ q : Nat, q ≤ m ∧ i = .int .i64 q ∧ Below w.heap.size w wi ∧ Own wi w.heap.size 3 1 icell A1 cap (givR sz H (od.take q))) (fun i _ => m - (intOf i).toNat)
      case atStart => exact ⟨0, by omega, rfl, HBL.out, HH0.out⟩
      case round =>
        clear HBL HH0 hs4
        rename World => wi
        obtain ⟨q, hq, rfl, hb2, hown⟩ := hrel
        have HB2 := Lib.hid hb2
        have HOW := Lib.hid hown
        have hsz2 := hb2.size
        clear hown hb2
        by_cases hlq : q < m
        · have hqo : q < od.length := by rw [HM.out]; exact hlq
          obtain ⟨hpl, _⟩ := HINV.out q (by rw [HM.out]; exact hq)
          obtain ⟨b, off, rfl, _, g0⟩ := (HD.out.below HB2.out).at1 hqo
          have hox := HO.out _ (List.getElem_mem hqo)
          have hsn := givR_snoc sz H (od.take q) od[q]
          rw [← List.take_succ_eq_append_getElem hqo] at hsn
          obtain ⟨R, hR⟩ : ∃ R, R = givR sz H (od.take q) := ⟨_, rfl⟩
          rw [← hR] at hsn HOW hpl
          obtain ⟨x0, hx0⟩ : ∃ x0, x0 = od[q] := ⟨_, rfl⟩
          rw [← hx0] at g0 hox hsn
          obtain ⟨i, rfl⟩ := Int.eq_ofNat_of_zero_le hox.1
          have hin : i < k := by omega
          unfold giveS at hsn
          rw [Int.toNat_natCast] at hsn
          have HSN := Lib.hid hsn
          have hbd := fun j => inB_bounds (sz := sz) (R := R) (n := k) hpl.len h8 HB.out j
          have HBD := Lib.hid hbd
          have HCALL := Lib.hid (fun j => ref_inBoxI sz R j A A1 k k c cap w.heap.size wi.heap.size wi HN.out hpl.len (Nat.le_refl _) h8 HB.out (HR.out.below HB2.out) HOW.out.els)
          have hiR : i < R.length := by rw [hpl.len]; exact hin
          have HIR := Lib.hid hiR
          clear hsn hx0 hR hpl hbd hiR
          go_wp2_with fail
          go_loop [11, 10] (fun s t => ∃ h : Nat, h + 1 ≤ H ∧ s = .int .i64 ((h + 1 : Nat) : Int) ∧ t = .int .i64 (amF (fun h : Nat => inB sz R h) h : Nat)) (fun s _ => H - (intOf s).toNat)
          case atStart => exact ⟨0, by omega, rfl, rfl⟩
          case round =>
            obtain ⟨h, hh, rfl, rfl⟩ := hrel
            by_cases hlh : h + 1 < H
            · have hs : amF (fun h : Nat => inB sz R h) (h + 1) = if inB sz R ((h + 1 : Nat) : Int) < inB sz R (amF (fun h : Nat => inB sz R h) h : Nat) then h + 1 else amF (fun h : Nat => inB sz R h) h := rfl
              obtain ⟨a, ha⟩ : ∃ a, a = amF (fun h : Nat => inB sz R h) h := ⟨_, rfl⟩
              rw [← ha] at hs ⊢
              have C1 := HCALL.out ((h + 1 : Nat) : Int)
              have C2 := HCALL.out (a : Int)
              have e1 : ((h + 1 : Nat) : Int) = (h : Int) + 1 := by omega
              rw [e1] at hs C1 ⊢
              obtain ⟨x, hx⟩ : ∃ x, x = inB sz R ((h : Int) + 1) := ⟨_, rfl⟩
              obtain ⟨y, hy⟩ : ∃ y, y = inB sz R (a : Int) := ⟨_, rfl⟩
              rw [← hx] at hs C1
              rw [← hy] at hs C2
              have HS := Lib.hid hs
              have HC1 := Lib.hid C1
              have HC2 := Lib.hid C2
              clear hs C1 C2 e1 ha hx hy
              by_cases hxy : x < y
              · go_wp2_with fail
                refine HC1.out.mono ?_
                rintro e w' ⟨rfl, rfl⟩
                go_wp2_with fail
                refine HC2.out.mono ?_
                rintro e w' ⟨rfl, rfl⟩
                go_wp2_with fail
                go_round
                case rel => exact ⟨h + 1, by omega, by go_num, by rw [HS.out, if_pos hxy]; go_num⟩
                case measure => simp [intOf]; omega
              · go_wp2_with fail
                refine HC1.out.mono ?_
                rintro e w' ⟨rfl, rfl⟩
                go_wp2_with fail
                refine HC2.out.mono ?_
                rintro e w' ⟨rfl, rfl⟩
                go_wp2_with fail
                go_round
                case rel => exact ⟨h + 1, by omega, by go_num, by rw [HS.out, if_neg (by omega)]⟩
                case measure => simp [intOf]; omega
            · obtain rfl : H = h + 1 := by omega
              obtain ⟨g, rfl, hgb, hgl, ca, fa⟩ := HOW.out.cell1 (f := fun x => .int .i64 x) (k := i) HIR.out
              have HG := Lib.hid hgb
              generalize R[i]'HIR.out = v0 at ca
              have hput := HOW.out.put1 (f := fun x => .int .i64 x) (k := i) (x := (amF (fun h : Nat => inB sz R h) h : Nat)) HIR.out
              rw [show h + 1 - 1 = h from rfl] at HSN
              obtain ⟨a, ha⟩ : ∃ a, a = amF (fun h : Nat => inB sz R h) h := ⟨_, rfl⟩
              rw [← ha] at hput HSN ⊢
              have HPUT := Lib.hid hput
              clear hput ha HCALL
              go_wp2_with fail
              refine ⟨⟨q + 1, by omega, by go_num, HB2.out.setCell HG.out _, ?_⟩, by simp [intOf]; omega⟩
              rw [HSN.out]
              exact HPUT.out
        · obtain rfl : q = m := by omega
          have hall : od.take q = od := List.take_of_length_le (by rw [HM.out]; omega)
          rw [hall] at HOW
          clear hall
          go_wp2_with fail
          go_ret
          exact ⟨_, _, rfl, HB2.out, HOW.out.els⟩

set_option maxRecDepth 100000 in
theorem ref_End (sz R : List Int) (H : Nat) (A B : Option Addr) (n c d : Nat) (BA BB : Nat) (w : World) (hn : sz.length = n) (hm : R.length = n) (h8 : n ≤ 8) (hH4 : H ≤ 4) (hb : ∀ i, 0 ≤ sz.getD i 0 ∧ sz.getD i 0 ≤ 1048576) (hr : Els w BA 1 icell A sz) (hR : Els w BB 1 icell B R) :
    Calls Try.prog 13 #[.slice A n c, .int .i64 H, .slice B n d] w fun e w' => e = .returned (.int .i64 (mxF (fun h : Nat => inB sz R h) H)) ∧ w = w' := by
  have HCALL := Lib.hid (fun j => ref_inBoxI sz R j A B n n c d BA BB w hn hm (Nat.le_refl _) h8 hb hr hR)
  clear hn hm hb hr hR
  go_enter Try.func13, Try.ntmps13
  go_wp2_with fail
  go_loop [8, 7] (fun s t => ∃ h : Nat, h ≤ H ∧ s = .int .i64 h ∧ t = .int .i64 (mxF (fun h : Nat => inB sz R h) h)) (fun s _ => H - (intOf s).toNat)
  case atStart => exact ⟨0, by omega, rfl, rfl⟩
  case round =>
    obtain ⟨h, hh, rfl, rfl⟩ := hrel
    by_cases hlh : h < H
    · have hs : mxF (fun h : Nat => inB sz R h) (h + 1) = if mxF (fun h : Nat => inB sz R h) h < inB sz R h then inB sz R h else mxF (fun h : Nat => inB sz R h) h := rfl
      have C1 := HCALL.out (h : Int)
      obtain ⟨x, hx⟩ : ∃ x, x = inB sz R (h : Int) := ⟨_, rfl⟩
      obtain ⟨y, hy⟩ : ∃ y, y = mxF (fun h : Nat => inB sz R h) h := ⟨_, rfl⟩
      rw [← hx, ← hy] at hs
      rw [← hx] at C1
      rw [← hy]
      have HS := Lib.hid hs
      have HC1 := Lib.hid C1
      clear hs C1 hx hy
      by_cases hxy : y < x
      · go_wp2_with fail
        refine HC1.out.mono ?_
        rintro e w' ⟨rfl, rfl⟩
        go_wp2_with fail
        refine HC1.out.mono ?_
        rintro e w' ⟨rfl, rfl⟩
        go_wp2_with fail
        go_round
        case rel => exact ⟨h + 1, by omega, by go_num, by rw [HS.out, if_pos hxy]⟩
        case measure => simp [intOf]; omega
      · go_wp2_with fail
        refine HC1.out.mono ?_
        rintro e w' ⟨rfl, rfl⟩
        go_wp2_with fail
        go_round
        case rel => exact ⟨h + 1, by omega, by go_num, by rw [HS.out, if_neg (by omega)]⟩
        case measure => simp [intOf]; omega
    · obtain rfl : h = H := by omega
      go_wp2_with fail
      go_ret
      exact ⟨rfl, rfl⟩
end Go.Proofs.Ytkfomboihnfajaa
