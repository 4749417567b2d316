/- The shortest ring without a short cut: the program's function and the reference's. Conditions: the edges read as a list; the table. -/
import Derived.Test.YtfaifadfilndmaaDoorBareB
import Derived.Test.YtfaifadfilndmaaDoorBareR
import Derived.Test.YtfaifadfilndmaaDoorGraphB
namespace Go.Proofs.YtfaifadfilndmaaDoor
open Go.RowKit
attribute [local go_sem ↓] w_and w_or w_xor w_andNot w_and1 w_and255 w_xor1 w_or0 w_shl w_shl1 w_shr w_sub w_add w_sub1 w_add1
attribute [local go_sem] w_eq0 w_ne0 w_eq1 w_eq w_ne

/-- The first ring of the least size. -/
def BareIs (t : List (BitVec 32)) (N : Nat) (r : Option (List Nat)) : Prop :=
  match r with
  | some u => ∃ k, 4 + k ≤ N ∧ (∀ j, j < k → bareF t N (4 + j) [] = none) ∧ bareF t N (4 + k) [] = some u
  | none => ∀ k, 4 + k ≤ N → bareF t N (4 + k) [] = none
theorem BareIs.same {t : List (BitVec 32)} {N : Nat} : ∀ {r r' : Option (List Nat)}, BareIs t N r → BareIs t N r' → r = r'
  | none, none, _, _ => rfl
  | none, some u, h, ⟨k, h1, _, h3⟩ => by have := h k h1; rw [this] at h3; cases h3
  | some u, none, ⟨k, h1, _, h3⟩, h => by have := h k h1; rw [this] at h3; cases h3
  | some u, some v, ⟨k, h1, h2, h3⟩, ⟨k', h1', h2', h3'⟩ => by
    rcases Nat.lt_trichotomy k k' with h | h | h
    · have := h2' k h; rw [this] at h3; cases h3
    · subst h; rw [h3] at h3'; exact h3'
    · have := h2 k' h; rw [this] at h3'; cases h3'
theorem BareIs.len {t : List (BitVec 32)} {N : Nat} {u : List Nat} (h : BareIs t N (some u)) : 4 ≤ u.length ∧ u.length ≤ N := by
  obtain ⟨k, h1, _, h3⟩ := h
  have := bareF_length _ _ _ _ _ h3
  simp at this
  omega
theorem row_start (t : List (BitVec 32)) (N s : Nat) : bareF t N (s + 1) [] = (List.range N).findSome? fun i => bareF t N s [i] := by
  rw [bareF]
  congr 1
theorem near_len (N : Nat) (l : List Ed) : (nearL N l).length = N := by
  unfold nearL
  rw [foldl_near_length]
  simp
theorem range_none' {β : Type} {g : Nat → Option β} {k : Nat} (h : (List.range k).findSome? g = none) (hk : g k = none) : (List.range (k + 1)).findSome? g = none := range_none h hk

set_option maxRecDepth 100000 in
set_option maxHeartbeats 2000000 in
theorem ref_BareRing (N : Nat) (A : Option Addr) (n c : Nat) (es : List Ed) (w : World) (hl : es.length = n) (hg : GoodG N es) (hr : Els w w.heap.size 3 Ed.cells A es) :
    Calls Tryd.prog 22 #[.agg #[.int .i64 N, .slice A n c]] w fun e w' => ∃ (R : Option Addr) (k cr : Nat) (r : Option (List Nat)), e = .returned (.slice R k cr) ∧ Below w.heap.size w w' ∧ BareIs (nearL N es) N r ∧ RingRes r R k w' := by
  have hN := hg.n10
  have h45 := hg.m45
  rw [hl] at h45
  have HR := Lib.hid hr
  have HG := Lib.hid hg
  have HL := Lib.hid hl
  have hb0 : Below w.heap.size w (w.alloc (.cells #[.int .i64 N, .slice A n c] 24)) := (Below.refl _ w).alloc (Nat.le_refl _) _
  have hk0 : Blk (w.alloc (.cells #[.int .i64 N, .slice A n c] 24)) w.heap.size 24 #[.int .i64 N, .slice A n c] := Blk.new w _ _
  have HB0 := Lib.hid hb0
  have HK0 := Lib.hid hk0
  clear hr hg hl hb0 hk0
  go_enter Tryd.func22, Tryd.ntmps22
  go_wp2_with fail
  go_loopw [3] (fun s wr => ∃ k : Nat, k ≤ N ∧ s = .int .i64 (4 + k : Nat) ∧ Below w.heap.size w wr ∧ Blk wr w.heap.size 24 #[.int .i64 N, .slice A n c] ∧ (∀ j, j < k → bareF (nearL N es) N (4 + j) [] = none)) (fun s _ => N + 5 - (intOf s).toNat)
  case atStart => exact ⟨0, by omega, rfl, HB0.out, HK0.out, fun j hj => by omega⟩
  case round =>
    clear HB0 HK0
    rename World => wr
    obtain ⟨k, hk, rfl, hb, hk0, hno⟩ := hrel
    have hz := hb.size
    have hlt0 := hk0.lt
    have d0 := hk0.cell 0
    have d1 := hk0.cell 1
    have HB := Lib.hid hb
    have HK := Lib.hid hk0
    have HNO := Lib.hid hno
    obtain ⟨s, hs⟩ : ∃ s, s = 4 + k := ⟨_, rfl⟩
    rw [← hs]
    have HSE := Lib.hid hs
    have hs3 : 4 ≤ s := by omega
    have hs2 : s ≤ N + 4 := by omega
    by_cases hle : s ≤ N
    · have HC := Lib.hid (ref_ringS N A n c es s HL.out h45 HG.out hN (by omega) hle s [] none 0 0 wr rfl (by omega) (Nat.le_refl _) ⟨List.nodup_nil, (fun i h => by cases h)⟩ trivial ((HR.out.below hb).more hz) Els.nil)
      clear hno hk0 hb hs
      go_wp2_with fail
      refine HC.out.mono ?_
      clear HC
      rintro e v2 ⟨R, kk, cr, rfl, hb2, hres⟩
      have heq : rRF es N s [] = bareF (nearL N es) N s [] := by
        obtain ⟨s', hs'⟩ : ∃ s', s = s' + 1 := ⟨s - 1, by omega⟩
        subst hs'
        exact rRF_bare HG.out s' [] (by simp; omega) ⟨List.nodup_nil, (fun i h => by cases h)⟩ rfl
      rw [heq] at hres
      clear heq
      have HB2 := Lib.hid (HB.out.trans (hb2.mono hz))
      have HK2 := Lib.hid (HK.out.below hb2 hlt0)
      clear hb2 d0 d1
      cases hrow : bareF (nearL N es) N s [] with
      | none =>
        rw [hrow] at hres
        have hg : kk = 0 := hres
        subst hg
        have HROW := Lib.hid hrow
        clear hres hrow
        go_wp2_with fail
        go_roundw
        case rel =>
          refine ⟨k + 1, by have := HSE.out; omega, ?_, HB2.out, HK2.out, fun j hj => ?_⟩
          · rw [HSE.out]
            go_num
          · by_cases hjk : j = k
            · rw [hjk, ← HSE.out]; exact HROW.out
            · exact HNO.out j (by omega)
        case measure => simp [intOf]; omega
      | some u =>
        rw [hrow] at hres
        have hul := bareF_length _ _ _ _ _ hrow
        simp at hul
        obtain ⟨hkk, he⟩ := hres
        have hk0 : 0 < kk := by omega
        have HKK := Lib.hid hkk
        have HE := Lib.hid he
        have HROW := Lib.hid hrow
        clear hkk he hrow hul
        go_wp2_with fail
        go_ret
        exact ⟨R, kk, cr, some u, rfl, HB2.out, ⟨k, by rw [← HSE.out]; exact hle, HNO.out, by rw [← HSE.out]; exact HROW.out⟩, HKK.out, HE.out⟩
    · clear hno hk0 hb hs
      go_wp2_with fail
      go_ret
      refine ⟨none, 0, 0, none, rfl, HB.out, fun j hj => HNO.out j ?_, rfl⟩
      have := HSE.out
      omega

set_option maxRecDepth 100000 in
set_option maxHeartbeats 2000000 in
theorem chord_Ring (N : Int) (A : Option Addr) (n c : Nat) (l : List Ed) (w : World) (hl : l.length = n) (hn : n ≤ maxLen) (hr : Els w w.heap.size 3 Ed.cells A l) (htab : TabOk w) :
    Calls Tryd.prog 21 #[.agg #[.int .i64 N, .slice A n c]] w fun e w' => ∃ (R : Option Addr) (k cap : Nat) (er : Int), e = .returned (.tuple #[.slice R k cap, .int .i64 er]) ∧ Below w.heap.size w w' ∧
      (graphCheck N l ≠ 0 → er = graphCheck N l ∧ k = 0) ∧ (graphCheck N l = 0 → ∃ (m : Nat) (r : Option (List Nat)), N = m ∧ BareIs (nearL m l) m r ∧ (r = none → er = 5 ∧ k = 0) ∧ (∀ u, r = some u → er = 0 ∧ k = u.length ∧ Els w' w'.heap.size 1 icell R (intsOf u))) := by
  have h0w : 0 < w.heap.size := Nat.lt_of_le_of_lt (Nat.zero_le _) htab.1
  have hb0 := (Below.refl w.heap.size w).alloc (Nat.le_refl _) (.cells #[.int .i64 N, .slice A n c] 24)
  have hB0 := Blk.new w 24 #[.int .i64 N, .slice A n c]
  have HW := Lib.hid (graph_Check N A n c l (w.alloc (.cells #[.int .i64 N, .slice A n c] 24)) hl hn ((hr.alloc (Nat.le_refl _) _).more (by rw [size_alloc']; omega)))
  have HL := Lib.hid hl
  have HR := Lib.hid hr
  have HT := Lib.hid htab
  have HB0 := Lib.hid hb0
  have HK0 := Lib.hid hB0
  have c0 := hB0.cell 0
  have c1 := hB0.cell 1
  clear hr hb0 hB0 hl htab
  go_enter Tryd.func21, Tryd.ntmps21
  go_wp2_with fail
  refine HW.out.mono ?_
  clear HW
  rintro e v1 ⟨rfl, hb1⟩
  have hk1 := HK0.out.below hb1 (by rw [size_alloc']; omega)
  have hb1' := HB0.out.trans (hb1.mono (by rw [size_alloc']; omega))
  have hz1 := hb1'.size
  have hlt1 := hk1.lt
  have HB1 := Lib.hid hb1'
  have HK1 := Lib.hid hk1
  clear c0 c1 hb1 hb1'
  have c0 := hk1.cell 0
  have c1 := hk1.cell 1
  clear hk1
  by_cases h0 : graphCheck N l = 0
  · obtain ⟨m, rfl, hg⟩ := graph_good h0
    have HZ := Lib.hid h0
    have HG := Lib.hid hg
    have hm := hg.n10
    have HN := Lib.hid (graph_Near m A n c l v1 HL.out hg ((HR.out.below HB1.out).more hz1))
    rw [h0]
    clear h0 hg
    go_wp2_with fail
    refine HN.out.mono ?_
    clear HN
    rintro e v2 ⟨A1, rfl, hb2, hown2⟩
    have hb2' := HB1.out.trans (hb2.mono hz1)
    have hz2 := hb2'.size
    have HB2 := Lib.hid hb2'
    have HE2 := Lib.hid hown2.els
    have hk2 := HK1.out.below hb2 hlt1
    have HK2 := Lib.hid hk2
    clear c0 c1 hb2 hb2' hown2 HK1 hk2
    obtain ⟨S, hS⟩ : ∃ S, S = v2.heap.size := ⟨_, rfl⟩
    have HSS := Lib.hid hS
    have hwS : w.heap.size < S := by rw [hS]; exact HK2.out.lt
    rw [← hS] at hz2
    clear hS
    go_wp2_with fail
    go_loopw [6] (fun s wr => ∃ k : Nat, k ≤ m ∧ s = .int .i64 (4 + k : Nat) ∧ Below S v2 wr ∧ (∀ j, j < k → bareF (nearL m l) m (4 + j) [] = none)) (fun s _ => m + 5 - (intOf s).toNat)
    case atStart => exact ⟨0, by omega, rfl, Below.refl _ _, fun j hj => by omega⟩
    case round =>
      rename World => wr
      obtain ⟨k, hk, rfl, hb, hno⟩ := hrel
      have hkr : Blk wr w.heap.size 24 #[.int .i64 m, .slice A n c] := HK2.out.below hb hwS
      have d0 := hkr.cell 0
      have d1 := hkr.cell 1
      have HB := Lib.hid hb
      have HNO := Lib.hid hno
      have HKR := Lib.hid hkr
      obtain ⟨s, hs⟩ : ∃ s, s = 4 + k := ⟨_, rfl⟩
      rw [← hs]
      have HSE := Lib.hid hs
      have hs3 : 4 ≤ s := by omega
      have hs2 : s ≤ m + 4 := by omega
      by_cases hle : s ≤ m
      · clear hno hb hkr hs
        go_wp2_with fail
        go_loopw [24] (fun i wi => ∃ q : Nat, q ≤ m ∧ i = .int .i64 q ∧ Below S v2 wi ∧ (List.range q).findSome? (fun i => bareF (nearL m l) m (s - 1) [i]) = none) (fun i _ => m - (intOf i).toNat)
        case atStart => exact ⟨0, by omega, rfl, HB.out, rfl⟩
        case round =>
          clear HB HKR d0 d1
          rename World => wi
          obtain ⟨q, hq, rfl, hbi, hnoi⟩ := hrel
          have hki : Blk wi w.heap.size 24 #[.int .i64 m, .slice A n c] := HK2.out.below hbi hwS
          have d0 := hki.cell 0
          have d1 := hki.cell 1
          have hzi := hbi.size
          have HBI := Lib.hid hbi
          have HNOI := Lib.hid hnoi
          clear hnoi
          by_cases hlt : q < m
          · obtain ⟨B, hB⟩ : ∃ B, B = wi.heap.size := ⟨_, rfl⟩
            obtain ⟨W2, hW2⟩ : ∃ W2, W2 = (wi.alloc (.cells #[.int .i64 q] 3)).alloc (.cells #[.slice A1 m m, .slice (some ⟨wi.heap.size, 0, none⟩) 1 1, .int .i64 s] 81) := ⟨_, rfl⟩
            have hSB : S ≤ B := by rw [hB, HSS.out]; exact hzi
            have hB0 : 0 < B := by omega
            have hbW : Below B wi W2 := by rw [hW2, hB]; exact ((Below.refl _ wi).alloc (Nat.le_refl _) _).alloc (by simp) _
            have hqk : Blk W2 (B + 1) 81 #[.slice A1 m m, .slice (some ⟨B, 0, none⟩) 1 1, .int .i64 s] := by rw [hW2, hB]; exact Blk.new_at (by simp)
            have hon : Own W2 B 3 1 icell (some ⟨B, 0, none⟩) 1 (intsOf [q]) := by
              rw [hW2, hB]
              exact (Own.lit (f := icell) (c := 1) wi wi.heap.size 3 #[.int .i64 (q : Int)] (fun _ => rfl) [(q : Int)] 1 rfl rfl (by unfold maxLen; omega) (Nat.le_refl _)).alloc _
            have hbiB : Below S v2 W2 := hbi.trans (hbW.mono hSB)
            have hrt : Els W2 B 1 wcell A1 (nearL m l) := by
              have h1 := HE2.out
              rw [← HSS.out] at h1
              exact (h1.below hbiB).more hSB
            have hSv : S ≤ v2.heap.size := by rw [HSS.out]; exact Nat.le_refl _
            have htb : TabOk W2 := HT.out.below (HB2.out.trans (hbiB.mono (Nat.le_of_lt hwS))) h0w
            have HC := Lib.hid (chord_on m hm (nearL m l) (near_len m l) A1 m s B (B + 1) hle hB0 (Nat.le_succ B) (s - 1) [q] B 1 1 W2.drew rfl (by omega) (Nat.le_refl _) ⟨by simp, by simp; omega⟩ (hrt.below (Below.refl B W2).drew) hqk.drew hon.drew (htb.block (Nat.le_refl _) rfl))
            rw [show leftW m [q] = wBut (wSub (wShl w1 m) w1) (wShl w1 q) from rfl] at HC
            have hkW : Blk W2 w.heap.size 24 #[.int .i64 m, .slice A n c] := hki.below hbW (by omega)
            have hzW : W2.heap.size = B + 1 + 1 := by rw [hW2, hB]; simp
            have e0 := hkW.cell 0
            have e1 := hkW.cell 1
            have HBW := Lib.hid hbiB
            have HW2 := Lib.hid hW2
            have HBE := Lib.hid hB
            have HSV := Lib.hid hSv
            clear hbW hqk hon hrt htb hbi hki hW2 hB hbiB hkW d0 d1 hSv
            go_wp2_with fail
            rw [← HW2.out, ← HBE.out]
            refine region_plain 8 9 (fun w' => w' = W2.drew) (by kernel_rfl) rfl ?_
            refine anyC_reads (by kernel_rfl) [0, 1, 2, 3, 4, 5, 6, 7] ?opl ?ohl 1 _ _ _ (by kernel_rfl) ?okk
            case ohl => (simp only [List.filterMap_cons, List.filterMap_nil, List.getElem?_toArray, List.getElem?_cons_zero, List.getElem?_cons_succ]; try rfl)
            repeat (
              refine readC_step (v := ?_) rfl (fun w' hw' => ?_) ?_
              rotate_left
              focus (subst hw'; go_simp; try with_reducible rfl)
              go_simp)
            refine readC_nil ?_
            refine anyC_one (i := 8) (by kernel_rfl) rfl rfl (.inr rfl) ?_
            go_simp
            refine HC.out.mono ?_
            clear HC
            rintro e v5 ⟨g', cr, hh5, hg5, hres⟩
            have hb5 : Below S v2 v5 := (HBW.out.drew).trans ((hh5.to (B := B) (by show B ≤ W2.heap.size; omega) (by simp)).mono hSB)
            have HB5 := Lib.hid hb5
            cases hrow : bareF (nearL m l) m (s - 1) [q] with
            | some u =>
              rw [hrow] at hres
              obtain ⟨rfl, hq5, ho5⟩ := hres
              have c5 := hq5.cell 1
              have HO5 := Lib.hid ho5
              have HALL : Hid (bareF (nearL m l) m s [] = some u) := Lib.hid (by
                obtain ⟨s', hs'⟩ : ∃ s', s = s' + 1 := ⟨s - 1, by omega⟩
                subst hs'
                rw [row_start]
                exact range_some hlt HNOI.out hrow)
              clear hrow hq5 ho5 hh5 hb5 hg5
              go_simp
              refine anyC_end (by kernel_rfl) (.inl (by kernel_rfl)) ?_
              go_wp2_with fail
              refine bodyPost_ret (v := .tuple #[.slice (some ⟨g', 0, none⟩) u.length cr, .int .i64 0]) (by simp [results, Tryd.results21, go_sem]) rfl ?_
              exact ⟨some ⟨g', 0, none⟩, u.length, cr, 0, rfl, HB2.out.trans (HB5.out.mono (Nat.le_of_lt hwS)), fun h => absurd HZ.out h, fun _ => ⟨m, some u, rfl, ⟨k, by rw [← HSE.out]; exact hle, HNO.out, by rw [← HSE.out]; exact HALL.out⟩, (fun h => by cases h), (fun u' hu => by cases hu; exact ⟨rfl, rfl, HO5.out.els⟩)⟩⟩
            | none =>
              rw [hrow] at hres
              obtain ⟨rfl, _, _⟩ := hres
              have HROW := Lib.hid hrow
              clear hrow hh5 hb5 hg5
              go_simp
              refine anyC_end (by kernel_rfl) (.inl (by kernel_rfl)) ?_
              go_wp2_with fail
              go_roundw
              case rel => exact ⟨q + 1, by omega, by go_num, HB5.out, range_none HNOI.out HROW.out⟩
              case measure => simp [intOf]; omega
          · have hqm : q = m := by omega
            have HNR : Hid (bareF (nearL m l) m s [] = none) := Lib.hid (by
              obtain ⟨s', hs'⟩ : ∃ s', s = s' + 1 := ⟨s - 1, by omega⟩
              subst hs'
              rw [row_start, ← hqm]
              have := HNOI.out
              rw [← hqm] at this
              exact this)
            clear hbi hki hqm
            go_wp2_with fail
            go_roundw
            case rel =>
              refine ⟨k + 1, by have := HSE.out; omega, ?_, HBI.out, fun j hj => ?_⟩
              · rw [HSE.out]
                go_num
              · by_cases hjk : j = k
                · rw [hjk, ← HSE.out]; exact HNR.out
                · exact HNO.out j (by omega)
            case measure => simp [intOf]; omega
      · clear hno hb hkr hs
        go_wp2_with fail
        refine bodyPost_ret (v := .tuple #[.slice none 0 0, .int .i64 5]) (by simp [results, Tryd.results21, go_sem]) rfl ?_
        refine ⟨none, 0, 0, 5, rfl, HB2.out.trans (HB.out.mono (Nat.le_of_lt hwS)), fun h => absurd HZ.out h, fun _ => ⟨m, none, rfl, fun j hj => HNO.out j ?_, fun _ => ⟨rfl, rfl⟩, fun u hu => by cases hu⟩⟩
        have := HSE.out
        omega
  · have h1 : (graphCheck N l != 0) = true := by simpa using h0
    have H0 := Lib.hid h0
    obtain ⟨x, hx⟩ : ∃ x, x = graphCheck N l := ⟨_, rfl⟩
    rw [← hx] at h1 ⊢
    have HX := Lib.hid hx
    clear h0 hx
    go_wp2_with fail
    refine bodyPost_ret (v := .tuple #[.slice none 0 0, .int .i64 x]) (by simp [results, Tryd.results21, go_sem]) rfl ?_
    exact ⟨none, 0, 0, x, rfl, HB1.out, fun _ => ⟨HX.out, rfl⟩, fun h => absurd h H0.out⟩
end Go.Proofs.YtfaifadfilndmaaDoor
