/- The tour by the reference: the walk. Conditions: the edges read as a list and may be. -/
import Derived.Test.YtjkfogkpacmdlaaDoorTourC
namespace Go.Proofs.YtjkfogkpacmdlaaDoor
open Go.RowKit Go.Shelf

def lenV (v : Value) : Nat := match v with
  | .slice _ k _ => k
  | _ => 0
/-- The place of the edge, so far. -/
def AtK (l : List Ed) (a j i : Nat) (v : Value) : Prop := (v = .int .i64 (-1) ∧ ∀ p, ∀ hp : p < i, ∀ hl : p < l.length, joins a j l[p] = false) ∨ ∃ k : Nat, ∃ hk : k < l.length, v = .int .i64 k ∧ joins a j l[k] = true
theorem AtK.none {l : List Ed} {a j i : Nat} {v : Value} (h : AtK l a j i v) (hi : l.length ≤ i) (hn : ¬ Adj l a j) : v = .int .i64 (-1) := by
  rcases h with ⟨h, _⟩ | ⟨k, hk, _, h⟩
  · exact h
  · exact absurd (adj_iff.2 ⟨l[k], List.getElem_mem _, h⟩) hn
theorem AtK.some {l : List Ed} {a j i : Nat} {v : Value} (h : AtK l a j i v) (hi : l.length ≤ i) (hn : Adj l a j) : ∃ k : Nat, ∃ hk : k < l.length, v = .int .i64 k ∧ joins a j l[k] = true := by
  rcases h with ⟨_, h⟩ | h
  · obtain ⟨e, he, hj⟩ := adj_iff.1 hn
    obtain ⟨p, hp, rfl⟩ := List.mem_iff_getElem.1 he
    rw [h p (by omega) hp] at hj
    cases hj
  · exact h
set_option maxRecDepth 100000 in
set_option maxHeartbeats 4000000 in
theorem ref_Tour (N : Nat) (A : Option Addr) (n c : Nat) (l : List Ed) (w : World) (hl : l.length = n) (hg : GoodG N l) (hN : 0 < N) (hr : Els w w.heap.size 3 Ed.cells A l) :
    Calls Tryd.prog 7 #[.agg #[.int .i64 N, .slice A n c]] w fun e w' => ∃ (A' : Option Addr) (k cap : Nat), e = .returned (.slice A' k cap) ∧ Below w.heap.size w w' ∧ (tourT N l).length = k ∧ Els w' w'.heap.size 1 icell A' (tourT N l) := by
  have hb0 := (Below.refl w.heap.size w).alloc (Nat.le_refl _) (.cells #[.int .i64 N, .slice A n c] 24)
  have hB0 := Blk.new w 24 #[.int .i64 N, .slice A n c]
  have h45 := hg.m45
  have h10 := hg.n10
  rw [hl] at h45
  have HDG : Hid (∀ (i : Nat) (v : World), Below w.heap.size w v → Calls Tryd.prog 18 #[.agg #[.int .i64 N, .slice A n c], .int .i64 i] v fun e w' => e = .returned (.int .i64 (deg l i)) ∧ Below v.heap.size v w') := Lib.hid fun i v hv =>
    ref_Degree N i A n c l v hl h45 ((hr.below hv).more hv.size)
  have HTO : Hid (∀ (s : Nat) (q : Bool) (v : World), s < N → (q = true ↔ mayT N l s s) → Below w.heap.size w v → Calls Tryd.prog 19 #[.agg #[.int .i64 N, .slice A n c], .int .i64 s, .int .i64 s] v fun e w' => e = .returned (.bool q) ∧ Below v.heap.size v w') := Lib.hid fun s q v hs hq hv =>
    ref_touring N s s A n c l q v hl hg hs hq ((hr.below hv).more hv.size)
  have HC1 : Hid (∀ v, Below w.heap.size w v → ∀ v', Below v.heap.size v v' → Below w.heap.size w v') := Lib.hid fun v hv v' hv' => hv.trans (hv'.mono hv.size)
  have HR := Lib.hid hr
  have HG := Lib.hid hg
  have HL := Lib.hid hl
  have HB0 := Lib.hid hb0
  have HK0 := Lib.hid hB0
  have c0 := hB0.cell 0
  have c1 := hB0.cell 1
  clear hr hb0 hB0 hg hl
  have hwN : IntKind.i64.wrap ((N : Int) - 1) = (N : Int) - 1 := IntWalk.i64_in _ (by omega)
  obtain ⟨S, hS⟩ : ∃ S, S = w.heap.size := ⟨_, rfl⟩
  go_enter Tryd.func7, Tryd.ntmps7
  go_wp2_with fail
  clear c0 c1
  go_loopw [3, 4] (fun s3 s4 wr => ∃ (k s : Nat), k ≤ N ∧ s < N ∧ s3 = .int .i64 s ∧ s4 = .int .i64 ((k : Int) - 1) ∧ StI l k N s ∧ Below w.heap.size w wr ∧ Blk wr w.heap.size 24 #[.int .i64 N, .slice A n c]) (fun _ s4 _ => (intOf s4 + 1).toNat)
  case atStart => exact ⟨N, 0, Nat.le_refl _, hN, rfl, rfl, StI.here l N, HB0.out, HK0.out⟩
  case round =>
    clear HB0 HK0
    rename World => wr
    obtain ⟨k, s, hk, hs, rfl, rfl, hst, hb, hkS⟩ := hrel
    have c0 := hkS.cell 0
    have c1 := hkS.cell 1
    have HB := Lib.hid hb
    have HKS := Lib.hid hkS
    have HST := Lib.hid hst
    by_cases h0 : k = 0
    · subst h0
      have hcmp : decide ((0 : Int) ≤ ((0 : Nat) : Int) - 1) = false := by decide
      have hss : s = stT N l := hst.eq_
      obtain ⟨q, hq⟩ : ∃ q : Bool, q = true ↔ mayT N l s s := ⟨open Classical in decide (mayT N l s s), by simp⟩
      have HT := Lib.hid (HTO.out s q wr hs hq hb)
      have HQ := Lib.hid hq
      have HSS := Lib.hid hss
      clear hst hb hkS hss hq
      go_wp2_with fail
      refine HT.out.mono ?_
      clear HT
      rintro e v1 ⟨rfl, hb1⟩
      have hk1 := HKS.out.below hb1 HKS.out.lt
      have HB1 := Lib.hid (HC1.out _ HB.out _ hb1)
      have HK1 := Lib.hid hk1
      clear c0 c1 hb1 hk1
      cases q with
      | false =>
        have HF : Hid (tourT N l = []) := Lib.hid (by
          unfold tourT
          rw [← HSS.out, if_neg (fun h => by have := HQ.out.2 h; cases this)])
        go_wp2_with fail
        go_ret
        exact ⟨none, 0, 0, rfl, HB1.out, by rw [HF.out]; rfl, by rw [HF.out]; exact fun h => absurd h (by simp)⟩
      | true =>
        have hmay := HQ.out.1 rfl
        have HW : Hid (tourT N l = (s : Int) :: tourR N l.length l s) := Lib.hid (by
          unfold tourT
          rw [← HSS.out, if_pos hmay])
        have HPC := Lib.hid hmay
        clear hmay HQ
        go_wp2_with fail
        have hz1 := HB1.out.size
        have ho0 : Own (v1.alloc (.cells #[.int .i64 s] 3)) v1.heap.size 3 1 icell (some ⟨v1.heap.size, 0, none⟩) 1 [(s : Int)] := Own.lit (f := icell) (c := 1) v1 v1.heap.size 3 #[.int .i64 s] (fun _ => rfl) [(s : Int)] 1 rfl rfl (by unfold maxLen; omega) (Nat.le_refl _)
        have hb0 : Below w.heap.size w (v1.alloc (.cells #[.int .i64 s] 3)) := HB1.out.alloc hz1 _
        have hk0 := HK1.out.alloc (.cells #[.int .i64 s] 3)
        have HO0 := Lib.hid ho0
        have HBB0 := Lib.hid hb0
        have HKK0 := Lib.hid hk0
        have HE0 := Lib.hid ((HR.out.below hb0).more hb0.size)
        have hSv : w.heap.size < v1.heap.size := HK1.out.lt
        clear ho0 hb0 hk0 HST
        go_loopw [5, 6] (fun s5 s6 wr => ∃ (l' : List Ed) (a n1 c1 c5 : Nat) (q : List Int) (A1 A5 : Option Addr), GoodG N l' ∧ a < N ∧ par N l' a s ∧ conn N l' a ∧ q ++ tourR N l'.length l' a = tourT N l ∧ q.length + n1 = n + 1 ∧ l'.length = n1 ∧ s5 = .slice A5 q.length c5 ∧ s6 = .int .i64 a ∧ v1.heap.size ≤ wr.heap.size ∧ Below w.heap.size w wr ∧ Blk wr w.heap.size 24 #[.int .i64 N, .slice A1 n1 c1] ∧ Els wr wr.heap.size 3 Ed.cells A1 l' ∧ Own wr v1.heap.size 3 1 icell A5 c5 q) (fun s5 _ _ => n + 2 - lenV s5)
        case atStart => exact ⟨l, s, n, c, 1, [(s : Int)], A, _, HG.out, hs, HPC.out.1, HPC.out.2, by rw [HW.out]; rfl, by simp; omega, HL.out, rfl, rfl, by rw [size_alloc']; omega, HBB0.out, HKK0.out, HE0.out, HO0.out⟩
        case round =>
          clear HO0 HBB0 HKK0 HE0
          rename World => wr
          obtain ⟨l', a, n1, c1, c5, q, A1, A5, hg', ha, hpar, hconn, hway, hlen, hl', rfl, rfl, hv1z, hb, hkS, he, ho⟩ := hrel
          have x0 := hkS.cell 0
          have x1 := hkS.cell 1
          have HG' := Lib.hid hg'
          have HPAR := Lib.hid hpar
          have HCONN := Lib.hid hconn
          have HWAY := Lib.hid hway
          have HL' := Lib.hid hl'
          have HB2 := Lib.hid hb
          have HKS2 := Lib.hid hkS
          have HE2 := Lib.hid he
          have HO2 := Lib.hid ho
          have hn45 := hg'.m45
          rw [hl'] at hn45
          by_cases hn0 : n1 = 0
          · subst hn0
            have hnil : l' = [] := List.eq_nil_of_length_eq_zero hl'
            have HQ : Hid (q = tourT N l) := Lib.hid (by rw [← hway, hnil]; show q = q ++ []; simp)
            clear hg' hpar hconn hway hl' hb hkS he ho hnil
            go_wp2_with fail
            go_ret
            exact ⟨A5, q.length, c5, rfl, HB2.out, by rw [← HQ.out], by rw [← HQ.out]; exact HO2.out.els⟩
          · have hn1 : decide (0 < n1) = true := decide_eq_true (by omega)
            have hne : l' ≠ [] := fun h => hn0 (by rw [← hl', h]; rfl)
            obtain ⟨hj1, hj2, hj3⟩ := nxtT_spec hg' hne hpar hconn
            obtain ⟨J, hJ⟩ : ∃ J, J = nxtT N l' a := ⟨_, rfl⟩
            rw [← hJ] at hj1 hj2 hj3
            have HJ2 := Lib.hid hj2
            have HJ3 := Lib.hid hj3
            have HJJ := Lib.hid hJ
            clear hg' hpar hconn hway hl' hb hkS he ho hne hj2 hj3 hJ
            go_wp2_with fail
            clear x0 x1
            go_loopw [7, 5, 6] (fun s7 s5 s6 wv => ∃ j : Nat, j ≤ J ∧ s7 = .int .i64 j ∧ s5 = .slice A5 q.length c5 ∧ s6 = .int .i64 a ∧ Below wr.heap.size wr wv) (fun s7 _ _ _ => N - (intOf s7).toNat)
            case atStart => exact ⟨0, Nat.zero_le _, rfl, rfl, rfl, Below.refl _ _⟩
            case round =>
              rename World => wv
              obtain ⟨j, hj, rfl, rfl, rfl, hbv⟩ := hrel
              have hkv := HKS2.out.below hbv HKS2.out.lt
              have y0 := hkv.cell 0
              have y1 := hkv.cell 1
              have hjN : j < N := by omega
              have HBV := Lib.hid hbv
              have HKV := Lib.hid hkv
              clear hbv hkv
              go_wp2_with fail
              go_loopw [44, 8] (fun s44 s8 wu => ∃ i : Nat, i ≤ n1 ∧ s44 = .int .i64 i ∧ AtK l' a j i s8 ∧ Below wv.heap.size wv wu) (fun s44 _ _ => n1 - (intOf s44).toNat)
              case atStart => exact ⟨0, Nat.zero_le _, rfl, .inl ⟨rfl, fun p hp _ => by omega⟩, Below.refl _ _⟩
              case round =>
                rename World => wu
                obtain ⟨i, hi, rfl, hat, hbu⟩ := hrel
                have HBU := Lib.hid hbu
                have HAT := Lib.hid hat
                by_cases hlt : i < n1
                · have hil : i < l'.length := by rw [HL'.out]; exact hlt
                  obtain ⟨b0, off, rfl, hbb, g0, g1, g2⟩ := ((HE2.out.below HBV.out).below (hbu.mono HBV.out.size)).at3 hil
                  obtain ⟨e, hee⟩ : ∃ e, e = l'[i] := ⟨_, rfl⟩
                  rw [← hee] at g0 g1 g2
                  have e0 := (Blk.new wu 48 #[.int .i64 e.a, .int .i64 e.b, .int .i64 e.w]).cell 0
                  have e1 := (Blk.new wu 48 #[.int .i64 e.a, .int .i64 e.b, .int .i64 e.w]).cell 1
                  obtain ⟨b1, hb1⟩ : ∃ b1 : Bool, (e.a == (a : Int)) = b1 := ⟨_, rfl⟩
                  obtain ⟨b2, hb2⟩ : ∃ b2 : Bool, (e.b == (j : Int)) = b2 := ⟨_, rfl⟩
                  obtain ⟨b3, hb3⟩ : ∃ b3 : Bool, (e.a == (j : Int)) = b3 := ⟨_, rfl⟩
                  obtain ⟨b4, hb4⟩ : ∃ b4 : Bool, (e.b == (a : Int)) = b4 := ⟨_, rfl⟩
                  have HJN : Hid (joins a j e = ((b1 && b2) || (b3 && b4))) := Lib.hid (by
                    rw [← hb1, ← hb2, ← hb3, ← hb4, Bool.eq_iff_iff, joins_iff]
                    simp only [Bool.or_eq_true, Bool.and_eq_true, beq_iff_eq])
                  have HYES : Hid (joins a j e = true → AtK l' a j (i + 1) (.int .i64 i)) := Lib.hid fun h => .inr ⟨i, hil, rfl, by rw [← hee]; exact h⟩
                  have HNOT : Hid (∀ v, AtK l' a j i v → joins a j e = false → AtK l' a j (i + 1) v) := Lib.hid fun v hv h => by
                    rcases hv with ⟨h1, h2⟩ | h1
                    · refine .inl ⟨h1, fun p hp hpl => ?_⟩
                      by_cases hpi : p = i
                      · subst hpi; rw [← hee]; exact h
                      · exact h2 p (by omega) hpl
                    · exact .inr h1
                  have hzv := HBU.out.size
                  clear hat hbu hee hil
                  cases b1 <;> cases b2 <;> cases b3 <;> cases b4 <;> (
                    go_wp2_with fail
                    go_roundw
                    case rel => exact ⟨i + 1, by omega, by go_num, by first | exact HYES.out HJN.out | exact HNOT.out _ HAT.out HJN.out, HBU.out.alloc hzv _⟩
                    case measure => simp [intOf]; omega)
                · obtain rfl : i = n1 := by omega
                  have hku := HKV.out.below hbu HKV.out.lt
                  have z0 := hku.cell 0
                  have z1 := hku.cell 1
                  have hbru := HBV.out.trans (hbu.mono HBV.out.size)
                  have HBRU := Lib.hid hbru
                  have HBWU := Lib.hid (HC1.out _ HB2.out _ hbru)
                  have HKU := Lib.hid hku
                  by_cases hadj : Adj l' a j
                  · obtain ⟨k, hkl, rfl, hjk⟩ := hat.some (by rw [HL'.out]; exact Nat.le_refl _) hadj
                    have hcut := erase_cut hkl HG'.out.nd hjk
                    have hel := ((HE2.out.below hbru).more hbru.size)
                    have HLS : Hid (∀ v, Below wr.heap.size wr v → Calls Tryd.prog 20 #[.agg #[.int .i64 N, .slice A1 i c1], .int .i64 k] v fun e w' => ∃ (A' : Option Addr) (m c' : Nat), e = .returned (.agg #[.int .i64 N, .slice A' m c']) ∧ Below v.heap.size v w' ∧ (cutE l' a j).length = m ∧ Own w' v.heap.size 48 3 Ed.cells A' c' (cutE l' a j)) := Lib.hid fun v hv => by
                      rw [← hcut]
                      exact ref_less N k A1 i c1 l' v HL'.out hn45 ((HE2.out.below hv).more hv.size)
                    have HLS1 := Lib.hid (HLS.out wu hbru)
                    have HCL := Lib.hid (cut_len HG'.out hadj)
                    have hqb : okT N l' a j = true ↔ mayT N (cutE l' a j) j s := by
                      rw [okT_iff]
                      exact ⟨fun h => ⟨par_cut HG'.out hadj HPAR.out, h.2⟩, fun h => ⟨hadj, h.2⟩⟩
                    have HTO2 : Hid (∀ (A' : Option Addr) (m c' : Nat) (v : World), (cutE l' a j).length = m → Els v v.heap.size 3 Ed.cells A' (cutE l' a j) → Calls Tryd.prog 19 #[.agg #[.int .i64 N, .slice A' m c'], .int .i64 j, .int .i64 s] v fun e w' => e = .returned (.bool (okT N l' a j)) ∧ Below v.heap.size v w') := Lib.hid fun A' m c' v hm hev =>
                      ref_touring N j s A' m c' (cutE l' a j) _ v hm (cut_good HG'.out a j) hjN hqb hev
                    have HADJ := Lib.hid hadj
                    clear hat hbu hku hbru hcut hel hadj hjk hqb
                    go_wp2_with fail
                    refine HLS1.out.mono ?_
                    clear HLS1
                    rintro e v2 ⟨A6, m6, c6, rfl, hb2, hm6, he6⟩
                    have HT := Lib.hid (HTO2.out A6 m6 c6 v2 hm6 he6.els)
                    have hb2' := HBRU.out.trans (hb2.mono HBRU.out.size)
                    have HB6 := Lib.hid hb2'
                    clear hb2 hm6 he6 hb2' z0 z1
                    go_wp2_with fail
                    refine HT.out.mono ?_
                    clear HT
                    rintro e v3 ⟨rfl, hb3⟩
                    have hb3' := HB6.out.trans (hb3.mono HB6.out.size)
                    have HB7 := Lib.hid hb3'
                    have hk7 := HKS2.out.below hb3' HKS2.out.lt
                    have z0 := hk7.cell 0
                    have z1 := hk7.cell 1
                    have HK7 := Lib.hid hk7
                    clear hb3 hb3' hk7
                    obtain ⟨qb, hqq⟩ : ∃ qb, qb = okT N l' a j := ⟨_, rfl⟩
                    have HQQ := Lib.hid hqq
                    rw [← hqq]
                    clear hqq
                    cases qb with
                    | false =>
                      have hjJ : j ≠ J := fun h => by
                        have h1 := HJ2.out
                        rw [← h, ← HQQ.out] at h1
                        cases h1
                      go_wp2_with fail
                      go_roundw
                      case rel => exact ⟨j + 1, by omega, by go_num, rfl, rfl, HB7.out⟩
                      case measure => simp [intOf]; omega
                    | true =>
                      have hjJ : j = J := Classical.byContradiction fun h => by
                        have h1 := HJ3.out j (by omega)
                        rw [← HQQ.out] at h1
                        cases h1
                      subst hjJ
                      have HLS2 := Lib.hid (HLS.out v3 HB7.out)
                      go_wp2_with fail
                      refine HLS2.out.mono ?_
                      clear HLS2 HLS HTO2
                      rintro e v4 ⟨A8, m8, c8, rfl, hb4, hm8, he8⟩
                      have hs4 : w.heap.size ≤ v3.heap.size := (HC1.out _ HB2.out _ HB7.out).size
                      have hb48 := (HC1.out _ HB2.out _ HB7.out).trans (hb4.mono hs4)
                      have hk8 := HK7.out.below hb4 HK7.out.lt
                      have f8 := hk8.frozen 0
                      have f9 := hk8.frozen 1
                      have x8 := hk8.cell 0
                      have x9 := hk8.cell 1
                      have ho8 := HO2.out.below (HB7.out.trans (hb4.mono HB7.out.size)) (Nat.le_refl _)
                      have hz8 := hb4.size
                      have hz7 := HB7.out.size
                      have HO9 := Lib.hid ((ho8.low (p := ⟨w.heap.size, 0, none⟩) (show w.heap.size < v1.heap.size by omega) (.int .i64 N)).low (p := ⟨w.heap.size, 1, none⟩) (show w.heap.size < v1.heap.size by omega) (.slice A8 m8 c8))
                      have HK9 := Lib.hid ((hk8.put 0 (.int .i64 N)).put 1 (.slice A8 m8 c8))
                      have HB9 := Lib.hid ((hb48.setCell (p := ⟨w.heap.size, 0, none⟩) (Nat.le_refl _) (.int .i64 N)).setCell (p := ⟨w.heap.size, 1, none⟩) (Nat.le_refl _) (.slice A8 m8 c8))
                      have hq46 : q.length ≤ 46 := by omega
                      have HE9 := Lib.hid ((he8.low (p := ⟨w.heap.size, 0, none⟩) (show w.heap.size < v3.heap.size by have := HK7.out.lt; omega) (.int .i64 N)).low (p := ⟨w.heap.size, 1, none⟩) (show w.heap.size < v3.heap.size by have := HK7.out.lt; omega) (.slice A8 m8 c8))
                      have HM8 := Lib.hid hm8
                      have HLT5 : Hid (∀ g, blkOf A5 = some g → v1.heap.size ≤ g ∧ g < v3.heap.size) := Lib.hid fun g hg => ⟨(ho8.lt g hg).1, by have := (HO2.out.lt g hg).2; omega⟩
                      have HLT8 : Hid (∀ g, blkOf A8 = some g → v3.heap.size ≤ g) := Lib.hid fun g hg => (he8.lt g hg).1
                      clear hb48 hk8 ho8 he8 hm8 hb4 z0 z1
                      go_wp2_with (at_builtin; go_loud (refine wpList_push rfl _ _ _ rfl v1.heap.size 1 3 (.int .i64 0) 8 Tryd.underlying25 (by kernel_rfl) rfl (by omega) icell _ #[.int .i64 j] A5 q.length c5 q rfl rfl HO9.out 1 [(j : Int)] rfl rfl v4.heap.size rfl (by simp [World.setCell]) (by simp [Value.oneCell']) (by unfold maxLen; omega) (by omega) (by omega) ?_; intro A9 cap9 w9 hown9 hgrow9 hloc9))
                      go_roundw
                      case rel =>
                        have hok := okT_iff.1 (show okT N l' a j = true from HQQ.out.symm)
                        have hcl := HCL.out
                        have hw4 : w.heap.size ≤ v4.heap.size := by omega
                        refine ⟨cutE l' a j, j, m8, c8, cap9, q ++ [(j : Int)], A8, A9, cut_good HG'.out a j, hjN, par_cut HG'.out HADJ.out HPAR.out, hok.2, ?_, ?_, HM8.out, by rw [List.length_append]; rfl, rfl, by have := hgrow9.size; rw [size_alloc'] at this; simp [World.setCell] at this; omega, ?_, ?_, ?_, hown9⟩
                        · rw [← HWAY.out, ← hcl, tourR, ← HJJ.out, List.append_assoc]; rfl
                        · rw [List.length_append, ← HM8.out]
                          have := HL'.out
                          simp
                          omega
                        · exact (HB9.out.alloc HB9.out.size _).grown hgrow9 (by have := HB9.out.size; rw [size_alloc']; omega) (fun g hg => by have := (HLT5.out g hg).1; omega)
                        · exact (HK9.out.alloc _).grown hgrow9 (fun h => by have := (HLT5.out _ h.symm).1; omega)
                        · refine ((HE9.out.alloc _).kept hgrow9 ?_).els
                          cases h8 : blkOf A8 with
                          | none => exact .inl rfl
                          | some g =>
                            right
                            intro h
                            have h1 := HLT8.out g h8
                            have h2 := (HLT5.out g h.symm).2
                            omega
                      case measure => simp [lenV]; omega
                  · have h8 := hat.none (by rw [HL'.out]; exact Nat.le_refl _) hadj
                    subst h8
                    have hjJ : j ≠ J := fun h => hadj (by rw [h]; exact (okT_iff.1 HJ2.out).1)
                    clear hat hbu hku hbru hadj HAT
                    have h9 : decide ((0 : Int) ≤ -1) = false := by decide
                    go_wp2_with fail
                    go_roundw
                    case rel => exact ⟨j + 1, by omega, by go_num, rfl, rfl, HBRU.out⟩
                    case measure => simp [intOf]; omega
    · obtain ⟨k, rfl⟩ : ∃ k', k = k' + 1 := ⟨k - 1, by omega⟩
      have e1 : ((k + 1 : Nat) : Int) - 1 = (k : Int) := by omega
      have hw1 : IntKind.i64.wrap ((k : Int) - 1) = (k : Int) - 1 := IntWalk.i64_in _ (by omega)
      have HD := Lib.hid (HDG.out k wr hb)
      have HST2 := Lib.hid (hst.down (by omega))
      obtain ⟨d, hd⟩ : ∃ d, d = deg l k := ⟨_, rfl⟩
      rw [← hd] at HST2 HD
      rw [e1]
      have hc0 : (0 : Int) ≤ (k : Int) := by omega
      clear hst hb hkS hd h0
      go_wp2_with fail
      refine HD.out.mono ?_
      clear HD
      rintro e v1 ⟨rfl, hb1⟩
      have hk1 := HKS.out.below hb1 HKS.out.lt
      have HB1 := Lib.hid (HC1.out _ HB.out _ hb1)
      have HK1 := Lib.hid hk1
      clear c0 c1 hb1 hk1
      by_cases hd0 : 0 < d
      · have HST3 : Hid (StI l k N k) := Lib.hid (by have := HST2.out; rwa [if_pos hd0] at this)
        go_wp2_with fail
        go_roundw
        case rel => exact ⟨k, k, by omega, by omega, rfl, by go_num, HST3.out, HB1.out, HK1.out⟩
        case measure => simp [intOf, hw1]
      · have HST3 : Hid (StI l k N s) := Lib.hid (by have := HST2.out; rwa [if_neg hd0] at this)
        go_wp2_with fail
        go_roundw
        case rel => exact ⟨k, s, by omega, hs, rfl, by go_num, HST3.out, HB1.out, HK1.out⟩
        case measure => simp [intOf, hw1]
end Go.Proofs.YtjkfogkpacmdlaaDoor
