/- First fit: the program's walk. Conditions: the sizes and the order read as lists. -/
import Derived.Test.YtkfomboihnfajaaPackA
import Derived.IntWalk
import Derived.Laws.EntriesVeiled
namespace Go.Proofs.Ytkfomboihnfajaa
open Go.RowKit

theorem ent_first1 : Ent Try.prog 31 := ent_of Try.func31 (by kernel_rfl) rfl
set_option maxRecDepth 100000 in
theorem pack_first1 (sz : List Int) (room y : Int) (A : Option Addr) (n c i : Nat) (S g : Nat) (w : World) (hn : sz.length = n) (hi : i < n) (hy : 0 ≤ y ∧ y ≤ 8388608) (hb : ∀ i, 0 ≤ sz.getD i 0 ∧ sz.getD i 0 ≤ 1048576)
    (hS : Blk w S 22 #[.slice A n c]) (hR : Blk w (S + 1) 2 #[.int .i64 room]) (hg : Blk w g 3 #[.int .i64 i]) (B : Nat) (hr : Els w B 1 zcell A sz) :
    Calls Try.prog 31 #[.int .i64 y, .pointer (some ⟨S, 0, none⟩), .pointer (some ⟨g, 0, none⟩), .pointer (some ⟨S + 1, 0, none⟩)] w fun e w' => e = .returned (.bool (decide (y + sz.getD i 0 ≤ room))) ∧ Below w.heap.size w w' := by
  have his : i < sz.length := by rw [hn]; exact hi
  obtain ⟨b, off, rfl, _, g0⟩ := hr.at1 his
  have e0 : sz.getD i 0 = sz[i] := getD_at sz i his 0
  have hbi := hb i
  rw [← e0] at g0
  have c0 := hS.cell 0
  have c1 := hR.cell 0
  have c2 := hg.cell 0
  generalize sz.getD i 0 = x at g0 hbi ⊢
  have hw : IntKind.i64.wrap (y + x) = y + x := IntWalk.i64_in _ (by omega)
  clear e0 hS hR hg hr hn hb his
  go_enter Try.func31, Try.ntmps31
  go_wp2_with fail
  go_quiet (fail)
  go_wp2_with fail
  go_ret
  exact ⟨rfl, below_drewN (Below.refl _ _) _⟩

set_option maxRecDepth 100000 in
set_option maxHeartbeats 1000000 in
theorem pack_first (sz od : List Int) (room : Int) (A B : Option Addr) (n m c d : Nat) (w : World) (hn : sz.length = n) (hm : od.length = m) (h8 : n ≤ 8) (hm8 : m ≤ 8) (hroom : room ≤ 1048576) (hb : ∀ i, 0 ≤ sz.getD i 0 ∧ sz.getD i 0 ≤ room)
    (ho : ∀ k, k < m → 0 ≤ od.getD k 0 ∧ od.getD k 0 < n) (hnd : od.Nodup) (hr : Els w w.heap.size 1 zcell A sz) (hd : Els w w.heap.size 1 zcell B od) :
    Calls Try.prog 19 #[.slice A n c, .int .i64 room, .slice B m d] w fun e w' => ∃ A' cap, e = .returned (.slice A' n cap) ∧ Below w.heap.size w w' ∧ ∃ R mb, Own w' (w.heap.size + 2) 3 1 zcell A' cap (filled R) ∧ Placed n mb R ∧ Fits sz room (List.replicate n (-1)) od R := by
  have HN := Lib.hid hn
  have HM := Lib.hid hm
  have HB := Lib.hid hb
  have HO := Lib.hid ho
  have HND := Lib.hid hnd
  have HR := Lib.hid hr
  have HD := Lib.hid hd
  have hpos : 0 ≤ room := by have := hb 0; omega
  clear hn hm hb ho hr hd hnd
  go_enter Try.func19, Try.ntmps19
  go_wp2_with (at_make; go_loud (refine wpList_make1 rfl _ _ _ rfl (w.heap.size + 2) 3 8 (fun x => .int .i64 x) 0 Try.underlying23 (by kernel_rfl) rfl _ .i64 .i64 n rfl rfl (by omega) (by unfold maxLen; omega) (by rw [size_alloc', size_alloc']; exact Nat.le_refl _) ?_; intro v1 hown1 hgrow1))
  obtain ⟨W2, hW2⟩ : ∃ W, W = ((w.alloc (.cells #[.slice A n c] 22)).alloc (.cells #[.int .i64 room] 2)) := ⟨_, rfl⟩
  have hS2 : W2.heap.size = w.heap.size + 2 := by rw [hW2, size_alloc', size_alloc']
  have hb2 : Below w.heap.size w W2 := by
    rw [hW2]
    exact ((Below.refl w.heap.size w).alloc (Nat.le_refl _) _).alloc (by rw [size_alloc']; omega) _
  have hB0 : Blk W2 w.heap.size 22 #[.slice A n c] := by
    rw [hW2]
    exact (Blk.new w _ _).alloc _
  have hB1 : Blk W2 (w.heap.size + 1) 2 #[.int .i64 room] := by
    rw [hW2]
    have := Blk.new (w.alloc (.cells #[.slice A n c] 22)) 2 #[.int .i64 room]
    rwa [size_alloc'] at this
  rw [← hW2] at hgrow1 hown1
  have hO1 : Own v1 (w.heap.size + 2) 3 1 zcell (some ⟨w.heap.size + 1 + 1, 0, none⟩) n (List.replicate n 0) := by
    rw [hS2] at hown1
    exact hown1
  have HB3 := Lib.hid (hb2.grown hgrow1 (by omega) (fun g hg => by cases hg))
  have HB0 := Lib.hid (hB0.grown hgrow1 (by simp))
  have HB1 := Lib.hid (hB1.grown hgrow1 (by simp))
  have HO1 := Lib.hid hO1
  clear hB0 hB1 hb2 hgrow1 hW2 hown1 hO1 hS2
  have hfill : filled (List.replicate n (-1 : Int)) = List.replicate n 0 := by simp [filled]
  have HFILL := Lib.hid hfill
  clear hfill
  go_loopw [17, 8] (fun i s wr => ∃ (q : Nat) (A1 : Option Addr) (cap : Nat) (bs R : List Int) (nb : Nat), q ≤ m ∧ i = .int .i64 q ∧ s = .slice A1 nb cap ∧ bs.length = nb ∧ nb ≤ q ∧ Below w.heap.size w wr ∧
    Blk wr w.heap.size 22 #[.slice A n c] ∧ Blk wr (w.heap.size + 1) 2 #[.int .i64 room] ∧
    Own wr (w.heap.size + 2) 3 1 zcell (some ⟨w.heap.size + 1 + 1, 0, none⟩) n (filled R) ∧ Own wr (w.heap.size + 3) 2 1 zcell A1 cap bs ∧
    Boxes sz R bs n ∧ Fits sz room (List.replicate n (-1)) (od.take q) R ∧ (∀ i : Nat, i < n → R.getD i 0 ≠ -1 → (i : Int) ∈ od.take q)) (fun i _ _ => m - (intOf i).toNat)
  case atStart =>
    refine ⟨0, none, 0, [], List.replicate n (-1), 0, by omega, rfl, rfl, rfl, Nat.le_refl _, HB3.out, HB0.out, HB1.out, by rw [HFILL.out]; exact HO1.out, Own.nil _ _ _ (fun _ => rfl), ⟨⟨by simp, fun i hi => by simp [List.getD_eq_getElem?_getD, hi], fun i hi => by simp [List.getD_eq_getElem?_getD, hi]⟩, fun j hj => by simp at hj⟩, .nil _, fun i hi h => ?_⟩
    simp [List.getD_eq_getElem?_getD, hi] at h
  case round =>
    clear HB3 HB0 HB1 HO1
    rename World => wr
    obtain ⟨q, A1, cap, bs, R, nb, hq, rfl, rfl, hnb, hnbq, hbl, hk0, hk1, hol, hob, hbx, hfits, hpl⟩ := hrel
    have hsz := hbl.size
    have hlt1 := hk1.lt
    have hlt2 := (hol.lt (w.heap.size + 2) rfl).2
    have HNB := Lib.hid hnb
    have HBL := Lib.hid hbl
    have HK0 := Lib.hid hk0
    have HK1 := Lib.hid hk1
    have HOL := Lib.hid hol
    have HOB := Lib.hid hob
    have HBX := Lib.hid hbx
    have HF := Lib.hid hfits
    have HPL := Lib.hid hpl
    clear hnb hbl hk0 hk1 hol hob hbx hfits hpl
    by_cases hlq : q < m
    · have hqo : q < od.length := by rw [HM.out]; exact hlq
      obtain ⟨b, off, rfl, _, g0⟩ := (HD.out.below HBL.out).at1 hqo
      have hoq := HO.out q hlq
      have eo : od.getD q 0 = od[q] := getD_at od q hqo 0
      obtain ⟨i, hi⟩ : ∃ i : Nat, od[q] = i := ⟨od[q].toNat, by rw [← eo]; omega⟩
      have htake : od.take (q + 1) = od.take q ++ [(i : Int)] := by rw [List.take_succ_eq_append_getElem hqo, hi]
      have hin : i < n := by rw [eo, hi] at hoq; omega
      have hno : R.getD i 0 = -1 := by
        rcases Classical.em (R.getD i 0 = -1) with h | h
        · exact h
        · have h1 := HPL.out i hin h
          have h2 : (od.take (q + 1)).Nodup := HND.out.sublist (List.take_sublist _ _)
          rw [htake] at h2
          have := (List.nodup_append.1 h2).2.2 _ h1 (i : Int) (by simp)
          exact absurd rfl this
      rw [hi] at g0
      have his : i < sz.length := by rw [HN.out]; exact hin
      have es : sz.getD i 0 = sz[i] := getD_at sz i his 0
      have hbi := HB.out i
      obtain ⟨x, hx⟩ : ∃ x, x = sz.getD i 0 := ⟨_, rfl⟩
      rw [← hx] at hbi
      have HX := Lib.hid hx
      have HNO := Lib.hid hno
      have HT := Lib.hid htake
      have hbR : ∀ j, 0 ≤ sz.getD j 0 ∧ sz.getD j 0 ≤ 1048576 := fun j => by have := HB.out j; omega
      have hbnd : ∀ j, j < bs.length → 0 ≤ bs.getD j 0 ∧ bs.getD j 0 ≤ 8388608 := fun j hj => by
        rw [HBX.out.sum j hj]
        have := inTo_bounds sz R j 1048576 hbR R.length
        have h2 := HBX.out.pl.len
        unfold inB
        omega
      have hGI := Blk.new wr 3 #[.int .i64 i]
      have hcall := IndexFunc_longs 31 ent_first1 #[.pointer (some ⟨w.heap.size, 0, none⟩), .pointer (some ⟨wr.heap.size, 0, none⟩), .pointer (some ⟨w.heap.size + 1, 0, none⟩)] (fun y => decide (y + x ≤ room)) A1 nb cap bs (wr.alloc (.cells #[.int .i64 i] 3)) HNB.out (by unfold maxLen; omega) (HOB.out.alloc _).els
        (fun a wx ha hb => by
          obtain ⟨j, hj, rfl⟩ := List.getElem_of_mem ha
          have := hbnd j hj
          rw [getD_at bs j hj 0] at this
          have hbb : Below w.heap.size (wr.alloc (.cells #[.int .i64 i] 3)) wx := hb.mono (by rw [size_alloc']; omega)
          have h1 := pack_first1 sz room bs[j] A n c i w.heap.size wr.heap.size wx HN.out hin this hbR ((HK0.out.alloc _).below hb (by rw [size_alloc']; omega)) ((HK1.out.alloc _).below hb (by rw [size_alloc']; omega)) (hGI.below hb (by rw [size_alloc']; omega)) w.heap.size (((HR.out.below HBL.out).alloc hsz _).below hbb)
          rw [← hx] at h1
          show Calls Try.prog 31 #[.int .i64 bs[j], .pointer (some ⟨w.heap.size, 0, none⟩), .pointer (some ⟨wr.heap.size, 0, none⟩), .pointer (some ⟨w.heap.size + 1, 0, none⟩)] wx _
          exact h1.mono fun e w' ⟨he, hw⟩ => ⟨he, hw.mono hb.size⟩)
      have HCALL := Lib.hid hcall
      clear hcall hno htake eo hi hoq
      have c0 := HK0.out.cell 0
      go_wp2_with fail
      refine HCALL.out.mono ?_
      clear HCALL
      rintro e u2 ⟨rfl, hu2⟩
      have hsu := hu2.size
      rw [size_alloc'] at hsu
      have hbU1 : Below w.heap.size w u2 := (HBL.out.alloc hsz _).trans (hu2.mono (by rw [size_alloc']; omega))
      have hk0U1 := (HK0.out.alloc (.cells #[.int .i64 i] 3)).below hu2 (by rw [size_alloc']; omega)
      have hk1U1 := (HK1.out.alloc (.cells #[.int .i64 i] 3)).below hu2 (by rw [size_alloc']; omega)
      have hgU1 := hGI.below hu2 (by rw [size_alloc']; omega)
      have holU1 := (HOL.out.alloc (.cells #[.int .i64 i] 3)).below hu2 (Nat.le_refl _)
      have hobU1 := (HOB.out.alloc (.cells #[.int .i64 i] 3)).below hu2 (Nat.le_refl _)
      have hgi1 : blkOf A1 ≠ some wr.heap.size := fun h => by have := (HOB.out.lt _ h).2; omega
      clear hu2 hGI c0
      rcases HBX.out.fit room x (by omega) with ⟨hany, hfit⟩ | ⟨k, hk, hidx, hfit⟩
      · rw [idxF_no hany]
        have HFIT : Hid (IsFit sz R room x nb) := by
          show IsFit sz R room x nb
          rw [← HNB.out]
          exact hfit
        have HOB2 := Lib.hid hobU1
        have hmore := HBX.out.more
        have hbnd2 : ∀ j, j < (bs ++ [0]).length → 0 ≤ (bs ++ [0]).getD j 0 ∧ (bs ++ [0]).getD j 0 ≤ 8388608 := fun j hj => by
          rw [hmore.sum j hj]
          have := inTo_bounds sz R j 1048576 hbR R.length
          have h2 := hmore.pl.len
          unfold inB
          omega
        have hrow : ∀ g, blkOf A1 = some g → w.heap.size + 3 ≤ g := fun g hg => (HOB.out.lt g hg).1
        clear hany hfit hbnd hmore
        go_wp2_with (at_builtin; go_loud (refine wpList_push rfl _ _ _ rfl (w.heap.size + 3) 1 2 (.int .i64 0) 8 Try.underlying22 (by kernel_rfl) rfl (by omega) zcell u2 #[.int .i64 0] A1 nb cap bs HNB.out rfl HOB2.out 1 [0] rfl rfl _ rfl rfl (by simp [Value.oneCell']) (by unfold maxLen; omega) (by omega) (by omega) ?_; intro A2 cap2 v4 hown2 hgrow hloc))
        have hbnd := hbnd2
        have hbU := (hbU1.alloc hbU1.size (.cells #[.int .i64 0] 2)).grown hgrow (by rw [size_alloc']; omega) (fun g hg => by have := hrow g hg; omega)
        have hk0U := (hk0U1.alloc (.cells #[.int .i64 0] 2)).grown hgrow (fun h => by have := hrow _ h.symm; omega)
        have hk1U := (hk1U1.alloc (.cells #[.int .i64 0] 2)).grown hgrow (fun h => by have := hrow _ h.symm; omega)
        have hgU := (hgU1.alloc (.cells #[.int .i64 0] 2)).grown hgrow (fun h => hgi1 h.symm)
        have holU := (holU1.alloc (.cells #[.int .i64 0] 2)).kept hgrow (.inr fun h => by have := hrow (w.heap.size + 1 + 1) h.symm; omega)
        have hobU := hown2
        have hgiU : blkOf A2 ≠ some wr.heap.size := by
          rcases hloc with h | h
          · rw [h]; exact hgi1
          · rw [h]; intro h2; injection h2 with h2; omega
        have hk3 : nb < (bs ++ [0]).length := by rw [List.length_append, HNB.out]; exact Nat.lt_succ_self _
        clear hbnd2 hbU1 hk0U1 hk1U1 hgU1 holU1 hobU1 hgi1 hown2 hgrow hloc hrow
        obtain ⟨g3, rfl, hg3, hg3l, cb, fb⟩ := hobU.cell1 (f := fun x => .int .i64 x) (k := nb) hk3
        have hgne : w.heap.size + 2 ≠ g3 := by omega
        have hgne2 : wr.heap.size ≠ g3 := fun h => hgiU (by rw [h]; rfl)
        obtain ⟨b', off', rfl, _, g1⟩ := (HR.out.below hbU).at1 his
        rw [← es, ← hx] at g1
        have ey : (bs ++ [0]).getD nb 0 = (bs ++ [0])[nb] := getD_at _ _ hk3 0
        rw [← ey] at cb
        have hyb := hbnd nb hk3
        obtain ⟨y, hy⟩ : ∃ y, y = (bs ++ [0]).getD nb 0 := ⟨_, rfl⟩
        rw [← hy] at cb hyb
        have hw : IntKind.i64.wrap (y + x) = y + x := IntWalk.i64_in _ (by omega)
        have d0 := hk0U.cell 0
        have d1 := hgU.cell 0
        have HY := Lib.hid hy
        have HBU := Lib.hid hbU
        have HK0U := Lib.hid hk0U
        have HK1U := Lib.hid hk1U
        have HGU := Lib.hid hgU
        have HOLU := Lib.hid holU
        have HOBU := Lib.hid hobU
        have HG3 := Lib.hid hg3
        have HNE := Lib.hid hgne
        have HNE2 := Lib.hid hgne2
        clear ey hy hx es hbU hk0U hk1U hgU holU hobU hgne hgne2 hg3 hgiU hbnd
        have hput := HOBU.out.put1 (f := fun x => .int .i64 x) (k := nb) (x := y + x) hk3
        have HPUT := Lib.hid hput
        have e0 := (HGU.out.far (p := ⟨g3, nb, none⟩) HNE2.out (.int .i64 (y + x))).cell 0
        have hol2 := HOLU.out.far (p := ⟨g3, nb, none⟩) (fun h => HNE.out (by simpa [blkOf] using h)) (.int .i64 (y + x))
        have hfl : (filled R).length = n := by unfold filled; rw [List.length_map, HBX.out.pl.len]
        obtain ⟨g4, hg4, _, _, cl, fl⟩ := hol2.cell1 (f := fun x => .int .i64 x) (k := i) (by omega)
        obtain rfl : w.heap.size + 1 + 1 = g4 := by simpa using hg4
        have hif : i < (filled R).length := by omega
        have HIF := Lib.hid hif
        generalize (filled R)[i] = v0 at cl
        have hput2 := hol2.put1 (f := fun x => .int .i64 x) (k := i) (x := (nb : Int)) (by omega)
        have HPUT2 := Lib.hid hput2
        have hbx3 := HBX.out.more.into hin hk3 HNO.out
        rw [← HX.out, ← HY.out] at hbx3
        have HBX3 := Lib.hid hbx3
        have hfit3 : IsFit sz R room (sz.getD i 0) nb := by rw [← HX.out]; exact HFIT.out
        have hsn := HF.out.snoc i nb hfit3
        rw [← HT.out] at hsn
        have HSN := Lib.hid hsn
        have hplaced : ∀ j : Nat, j < n → (R.set i (nb : Int)).getD j 0 ≠ -1 → (j : Int) ∈ od.take (q + 1) := by
          intro j hj h
          rw [HT.out, List.mem_append]
          by_cases hij : i = j
          · subst hij; exact .inr (by simp)
          · rw [getD_set_ne _ _ _ _ hij] at h
            exact .inl (HPL.out j hj h)
        have HPLC := Lib.hid hplaced
        clear hg4 hput hput2 hbx3 hfit3 hsn hplaced hol2 hfl hif
        go_region
        go_wp2_with fail
        go_roundw
        case rel =>
          refine ⟨q + 1, some ⟨g3, 0, none⟩, _, (bs ++ [0]).set nb (y + x), R.set i (nb : Int), _, by omega, by go_num, rfl, by rw [List.length_set]; rw [List.length_append, HNB.out]; rfl, by omega, ?_, ?_, ?_, ?_, ?_, HBX3.out, HSN.out, HPLC.out⟩
          · exact (HBU.out.setCell (show w.heap.size ≤ g3 by have := HG3.out; omega) _).drew.setCell (show w.heap.size ≤ w.heap.size + 1 + 1 by omega) _
          · exact ((HK0U.out.far (show w.heap.size ≠ g3 by have := HG3.out; omega) _).drew.far (show w.heap.size ≠ w.heap.size + 1 + 1 by omega) _)
          · exact ((HK1U.out.far (show w.heap.size + 1 ≠ g3 by have := HG3.out; omega) _).drew.far (show w.heap.size + 1 ≠ w.heap.size + 1 + 1 by omega) _)
          · rw [filled_set]; exact HPUT2.out.drew
          · exact HPUT.out.drew.far (fun h => HNE.out (by simpa [blkOf] using h.symm)) _
        case measure => simp [intOf]; omega
      · rw [hidx]
        have HFIT := Lib.hid hfit
        have hbU := hbU1
        have hk0U := hk0U1
        have hk1U := hk1U1
        have hgU := hgU1
        have holU := holU1
        have hobU := hobU1
        have hgiU := hgi1
        have hk3 : k < bs.length := hk
        have hknb : k < nb := by rw [← HNB.out]; exact hk
        clear hbU1 hk0U1 hk1U1 hgU1 holU1 hobU1 hgi1 hidx hfit
        obtain ⟨g3, rfl, hg3, hg3l, cb, fb⟩ := hobU.cell1 (f := fun x => .int .i64 x) (k := k) hk3
        have hgne : w.heap.size + 2 ≠ g3 := by omega
        have hgne2 : wr.heap.size ≠ g3 := fun h => hgiU (by rw [h]; rfl)
        obtain ⟨b', off', rfl, _, g1⟩ := (HR.out.below hbU).at1 his
        rw [← es, ← hx] at g1
        have ey : (bs).getD k 0 = (bs)[k] := getD_at _ _ hk3 0
        rw [← ey] at cb
        have hyb := hbnd k hk3
        obtain ⟨y, hy⟩ : ∃ y, y = (bs).getD k 0 := ⟨_, rfl⟩
        rw [← hy] at cb hyb
        have hw : IntKind.i64.wrap (y + x) = y + x := IntWalk.i64_in _ (by omega)
        have d0 := hk0U.cell 0
        have d1 := hgU.cell 0
        have HY := Lib.hid hy
        have HBU := Lib.hid hbU
        have HK0U := Lib.hid hk0U
        have HK1U := Lib.hid hk1U
        have HGU := Lib.hid hgU
        have HOLU := Lib.hid holU
        have HOBU := Lib.hid hobU
        have HG3 := Lib.hid hg3
        have HNE := Lib.hid hgne
        have HNE2 := Lib.hid hgne2
        clear ey hy hx es hbU hk0U hk1U hgU holU hobU hgne hgne2 hg3 hgiU hbnd
        have hput := HOBU.out.put1 (f := fun x => .int .i64 x) (k := k) (x := y + x) hk3
        have HPUT := Lib.hid hput
        have e0 := (HGU.out.far (p := ⟨g3, k, none⟩) HNE2.out (.int .i64 (y + x))).cell 0
        have hol2 := HOLU.out.far (p := ⟨g3, k, none⟩) (fun h => HNE.out (by simpa [blkOf] using h)) (.int .i64 (y + x))
        have hfl : (filled R).length = n := by unfold filled; rw [List.length_map, HBX.out.pl.len]
        obtain ⟨g4, hg4, _, _, cl, fl⟩ := hol2.cell1 (f := fun x => .int .i64 x) (k := i) (by omega)
        obtain rfl : w.heap.size + 1 + 1 = g4 := by simpa using hg4
        have hif : i < (filled R).length := by omega
        have HIF := Lib.hid hif
        generalize (filled R)[i] = v0 at cl
        have hput2 := hol2.put1 (f := fun x => .int .i64 x) (k := i) (x := (k : Int)) (by omega)
        have HPUT2 := Lib.hid hput2
        have hbx3 := HBX.out.into hin hk3 HNO.out
        rw [← HX.out, ← HY.out] at hbx3
        have HBX3 := Lib.hid hbx3
        have hfit3 : IsFit sz R room (sz.getD i 0) k := by rw [← HX.out]; exact HFIT.out
        have hsn := HF.out.snoc i k hfit3
        rw [← HT.out] at hsn
        have HSN := Lib.hid hsn
        have hplaced : ∀ j : Nat, j < n → (R.set i (k : Int)).getD j 0 ≠ -1 → (j : Int) ∈ od.take (q + 1) := by
          intro j hj h
          rw [HT.out, List.mem_append]
          by_cases hij : i = j
          · subst hij; exact .inr (by simp)
          · rw [getD_set_ne _ _ _ _ hij] at h
            exact .inl (HPL.out j hj h)
        have HPLC := Lib.hid hplaced
        clear hg4 hput hput2 hbx3 hfit3 hsn hplaced hol2 hfl hif
        go_wp2_with fail
        go_region
        go_wp2_with fail
        go_roundw
        case rel =>
          refine ⟨q + 1, some ⟨g3, 0, none⟩, _, (bs).set k (y + x), R.set i (k : Int), _, by omega, by go_num, rfl, by rw [List.length_set]; exact HNB.out, by omega, ?_, ?_, ?_, ?_, ?_, HBX3.out, HSN.out, HPLC.out⟩
          · exact (HBU.out.setCell (show w.heap.size ≤ g3 by have := HG3.out; omega) _).drew.setCell (show w.heap.size ≤ w.heap.size + 1 + 1 by omega) _
          · exact ((HK0U.out.far (show w.heap.size ≠ g3 by have := HG3.out; omega) _).drew.far (show w.heap.size ≠ w.heap.size + 1 + 1 by omega) _)
          · exact ((HK1U.out.far (show w.heap.size + 1 ≠ g3 by have := HG3.out; omega) _).drew.far (show w.heap.size + 1 ≠ w.heap.size + 1 + 1 by omega) _)
          · rw [filled_set]; exact HPUT2.out.drew
          · exact HPUT.out.drew.far (fun h => HNE.out (by simpa [blkOf] using h.symm)) _
        case measure => simp [intOf]; omega
    · obtain rfl : q = m := by omega
      have hall : od.take q = od := List.take_of_length_le (by rw [HM.out]; omega)
      have HF2 : Hid (Fits sz room (List.replicate n (-1)) od R) := by
        show Fits sz room (List.replicate n (-1)) od R
        have := HF.out
        rwa [hall] at this
      clear hall
      go_wp2_with fail
      go_ret
      exact ⟨_, _, rfl, HBL.out, R, _, HOL.out, HBX.out.pl, HF2.out⟩
end Go.Proofs.Ytkfomboihnfajaa
