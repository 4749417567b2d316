/- The order of jobs: the program's walk. Conditions: the jobs and their lists read as lists. -/
import Derived.Test.YtpinhmhempbmoaaLineB
import Derived.Laws.EntriesVeiled
namespace Go.Proofs.Ytpinhmhempbmoaa
open Go.RowKit

def lenV : Value → Nat
  | .slice _ n _ => n
  | _ => 0
def OrderIs (l : List Jb) (n : Nat) (w w' : World) (e : Ending) : Prop :=
  ∃ (A' : Option Addr) (k cap : Nat) (code : Int), e = .returned (.tuple #[.slice A' k cap, .int .i64 code]) ∧ Below w.heap.size w w' ∧ (jobsCheck l ≠ 0 → code = jobsCheck l ∧ k = 0) ∧
    (jobsCheck l = 0 → (HasOrder l → code = 0 ∧ k = n ∧ Els w' w'.heap.size 1 icell A' (orderL l n)) ∧ (¬ HasOrder l → code = 5 ∧ k = 0))
theorem next_skip {l : List Jb} {gone : List Int} {f i n : Nat} (h1 : ∀ j, j < f → nextB l gone j = false) (h2 : ∀ j, f ≤ j → j < i → depB l gone j = false) (h3 : hasB gone i = true) : ∀ j, j < i + 1 → nextB l gone j = false := by
  intro j hj
  by_cases hjf : j < f
  · exact h1 j hjf
  · by_cases hji : j = i
    · unfold nextB; rw [hji, h3]; rfl
    · unfold nextB; rw [h2 j (by omega) (by omega), Bool.and_false]

set_option maxRecDepth 100000 in
set_option maxHeartbeats 1000000 in
theorem line_Order (l : List Jb) (A : Option Addr) (n c : Nat) (w : World) (hl : l.length = n) (hn : n ≤ maxLen) (hr : Els w w.heap.size 4 Jb.cells A l) (ha : Afters w w.heap.size l) :
    Calls Try.prog 38 #[.slice A n c] w fun e w' => OrderIs l n w w' e := by
  have HC := Lib.hid (line_check l A n c w hl hn hr ha)
  have HL := Lib.hid hl
  have HR := Lib.hid hr
  have HA := Lib.hid ha
  have hmm := @run_makeMap Try.prog
  clear hr ha
  go_enter Try.func38, Try.ntmps38
  go_wp2_with fail
  refine HC.out.mono ?_
  clear HC
  rintro e v1 ⟨rfl, hb1⟩
  have hz1 := hb1.size
  have HB1 := Lib.hid hb1
  clear hb1
  by_cases h0 : jobsCheck l = 0
  · have hg := jobs_good h0
    have h10 := hg.n10
    rw [hl] at h10
    have HG := Lib.hid hg
    have HZ := Lib.hid h0
    have hM0 := MapB.made (kv := intV) v1
    have hB2 := HB1.out.alloc hz1 (.map #[] 0)
    have HM0 := Lib.hid hM0
    have HB2 := Lib.hid hB2
    rw [h0]
    clear h0 hg hl hM0 hB2
    go_wp2_with fail
    obtain ⟨r, hrr⟩ : ∃ r, r = v1.heap.size := ⟨_, rfl⟩
    rw [← hrr] at HM0 hz1 ⊢
    clear hrr
    go_loopw [6] (fun s wr => ∃ (k : Nat) (A1 : Option Addr) (cap : Nat) (L : List (Int × Value)), k ≤ n ∧ s = .slice A1 k cap ∧ Below w.heap.size w wr ∧ MapB wr r intV L ∧ DoneIs L (orderL l k) ∧ Own wr (r + 1) 3 1 icell A1 cap (orderL l k) ∧ ∀ j, j < k → nextAt l j ≠ -1) (fun s _ => n - lenV s)
    case atStart => exact ⟨0, none, 0, [], by omega, rfl, HB2.out, HM0.out, fun x => rfl, Own.nil _ _ _ (fun _ => rfl), fun j hj => by omega⟩
    case round =>
      clear HM0 HB2 HB1
      rename World => wr
      obtain ⟨k, A1, cap, L, hk, rfl, hb, hmap, hdone, hown, hpre⟩ := hrel
      have hsz := hb.size
      have hltm := hmap.lt
      have HB := Lib.hid hb
      have HM := Lib.hid hmap
      have HD := Lib.hid hdone
      have HO := Lib.hid hown
      have HP := Lib.hid hpre
      clear hb hmap hdone hown hpre
      by_cases hlt : k < n
      · have HN := Lib.hid (line_next l (orderL l k) L r 0 A n c wr HL.out h10 (by omega) ((HR.out.below HB.out).more hsz) ((HA.out.below HB.out).more hsz) HM.out HD.out)
        go_wp2_with fail
        refine HN.out.mono ?_
        clear HN
        rintro e v2 ⟨rfl, hb2⟩
        have HB2 := Lib.hid (HB.out.trans (hb2.mono hsz))
        have HM2 := Lib.hid (HM.out.below hb2 hltm)
        have HO2 := Lib.hid (HO.out.below hb2 (Nat.le_refl _))
        clear hb2 HB HM HO hsz hltm
        go_wp2_with fail
        go_loopw [7] (fun s wi => ∃ f : Nat, f ≤ 10 ∧ s = .int .i64 (nf (depB l (orderL l k)) n f) ∧ (∀ j, j < f → nextB l (orderL l k) j = false) ∧ Below w.heap.size w wi ∧ MapB wi r intV L ∧ Own wi (r + 1) 3 1 icell A1 cap (orderL l k)) (fun s _ => if intOf s < 0 then 0 else n - (intOf s).toNat)
        case atStart => exact ⟨0, by omega, rfl, fun j hj => by omega, HB2.out, HM2.out, HO2.out⟩
        case round =>
          clear HB2 HM2 HO2
          rename World => wi
          obtain ⟨f, hf, rfl, hfno, hb, hmap, hown⟩ := hrel
          have hsz := hb.size
          have hltm := hmap.lt
          have HFN := Lib.hid hfno
          have HB := Lib.hid hb
          have HM := Lib.hid hmap
          have HO := Lib.hid hown
          clear hb hmap hown hfno
          rcases nf_cases (depB l (orderL l k)) n _ f rfl with ⟨h1, h2⟩ | ⟨i, h1, h2, h3, h4, h5⟩
          · have hno : nextAt l k = -1 := nf_none _ (fun i _ hi => by
              rw [HL.out] at hi
              by_cases hif : i < f
              · exact HFN.out i hif
              · unfold nextB; rw [h2 i (by omega) hi, Bool.and_false])
            have HNO := Lib.hid hno
            rw [h1]
            clear h1 h2 hno
            go_wp2_with fail
            refine bodyPost_ret (v := .tuple #[.slice none 0 0, .int .i64 5]) (by simp [results, Try.results38, go_sem]) rfl ?_
            exact ⟨none, 0, 0, 5, rfl, HB.out, fun h => absurd HZ.out h, fun _ => ⟨fun h => absurd HNO.out (h k (by rw [HL.out]; exact hlt)), fun _ => ⟨rfl, rfl⟩⟩⟩
          · have hlook := run_look (P := Try.prog) (keyL_int Try.underlying3) Try.underlying113 (z := .int .i64 0) (fun u => by kernel_rfl) HM.out (i : Int) false
            rw [HD.out (i : Int)] at hlook
            rw [h1]
            have H5 := Lib.hid h5
            have H4 := Lib.hid h4
            clear h1 h5 h4
            rcases hdone : hasB (orderL l k) i with _ | _
            · rw [hdone] at hlook
              simp only [Bool.false_eq_true, if_false, Option.getD_none] at hlook
              have hat : nextAt l k = i := nf_of _ (Nat.zero_le _) (by rw [HL.out]; exact h3) (by unfold nextB; rw [hdone, H4.out]; rfl) (fun j _ hj => by
                by_cases hjf : j < f
                · exact HFN.out j hjf
                · unfold nextB; rw [H5.out j (by omega) hj, Bool.and_false])
              have HAT := Lib.hid hat
              obtain ⟨W2, hput, hM2, hgrow2, hsz2⟩ := run_put (P := Try.prog) (keyL_int Try.underlying3) Try.underlying113 HM.out (i : Int) (.int .i64 1)
              have HMM := Lib.hid hM2
              have HBB := Lib.hid (HB.out.grown hgrow2 hsz (fun g hg => by cases hg; omega))
              have HOO := Lib.hid (HO.out.kept hgrow2 (.inr fun h => by have := (HO.out.lt r h).1; omega))
              have hsw : w.heap.size ≤ W2.heap.size := by omega
              have hrw : r < W2.heap.size := by omega
              have HD2 := Lib.hid (done_put (a := (i : Int)) HD.out)
              clear hdone hat hM2 hgrow2 hsz2
              go_wp2_with (at_builtin; go_must (
                refine wpList_push rfl _ _ _ rfl (r + 1) 1 3 (.int .i64 0) 8 Try.underlying28 (by kernel_rfl) rfl (by omega) icell W2 #[.int .i64 i] A1 k cap (orderL l k) (orderL_length l k) rfl HOO.out 1 [(i : Int)] rfl rfl W2.heap.size rfl rfl (by simp [Value.oneCell']) (by unfold maxLen; omega) (by omega) (by omega) ?_
                intro A2 cap2 w4 hown2 hgrow hloc))
              refine ⟨⟨k + 1, A2, cap2, _, by omega, rfl, (HBB.out.alloc hsw _).grown hgrow (by rw [size_alloc']; omega) (fun g hg => by have := (HOO.out.lt g hg).1; omega), (HMM.out.alloc _).grown hgrow (fun h => by have := (HOO.out.lt r h.symm).1; omega), ?_, ?_, ?_⟩, by simp [lenV]; omega⟩
              · rw [orderL_succ, HAT.out]; exact HD2.out
              · rw [orderL_succ, HAT.out]; exact hown2
              · intro j hj
                by_cases hjk : j = k
                · rw [hjk, HAT.out]; omega
                · exact HP.out j (by omega)
            · rw [hdone] at hlook
              simp only [if_true, Option.getD_some, Bool.false_eq_true, if_false] at hlook
              have HSK := Lib.hid (next_skip (n := n) HFN.out H5.out hdone)
              have HN := Lib.hid (line_next l (orderL l k) L r (i + 1) A n c wi HL.out h10 (by omega) ((HR.out.below HB.out).more hsz) ((HA.out.below HB.out).more hsz) HM.out HD.out)
              have e1 : ((i + 1 : Nat) : Int) = (i : Int) + 1 := by omega
              rw [e1] at HN
              clear hdone e1
              go_wp2_with fail
              refine HN.out.mono ?_
              clear HN
              rintro e v3 ⟨rfl, hb3⟩
              have HB3 := Lib.hid (HB.out.trans (hb3.mono hsz))
              have HM3 := Lib.hid (HM.out.below hb3 hltm)
              have HO3 := Lib.hid (HO.out.below hb3 (Nat.le_refl _))
              clear hb3 hlook
              go_wp2_with fail
              go_roundw
              case rel => exact ⟨i + 1, by omega, rfl, HSK.out, HB3.out, HM3.out, HO3.out⟩
              case measure =>
                show (if intOf (.int .i64 (nf (depB l (orderL l k)) n (i + 1))) < 0 then 0 else n - (intOf (.int .i64 (nf (depB l (orderL l k)) n (i + 1)))).toNat) < (if intOf (.int .i64 (i : Int)) < 0 then 0 else n - (intOf (.int .i64 (i : Int))).toNat)
                rcases nf_cases (depB l (orderL l k)) n _ (i + 1) rfl with ⟨h6, _⟩ | ⟨i2, h6, h7, h8, _⟩
                · rw [h6]
                  show (if (-1 : Int) < 0 then 0 else n - (-1 : Int).toNat) < (if (i : Int) < 0 then 0 else n - (i : Int).toNat)
                  rw [if_pos (by omega), if_neg (by omega)]
                  omega
                · rw [h6]
                  show (if (i2 : Int) < 0 then 0 else n - (i2 : Int).toNat) < (if (i : Int) < 0 then 0 else n - (i : Int).toNat)
                  rw [if_neg (by omega), if_neg (by omega)]
                  omega
      · obtain rfl : k = n := by omega
        go_wp2_with fail
        refine bodyPost_ret (v := .tuple #[.slice A1 k cap, .int .i64 0]) (by simp [results, Try.results38, go_sem]) rfl ?_
        exact ⟨A1, k, cap, 0, rfl, HB.out, fun h => absurd HZ.out h, fun _ => ⟨fun _ => ⟨rfl, rfl, HO.out.els⟩, fun h => absurd (fun j hj => HP.out j (by rw [HL.out] at hj; exact hj)) h⟩⟩
  · have h1 : (jobsCheck l != 0) = true := by simpa using h0
    have H0 := Lib.hid h0
    obtain ⟨x, hx⟩ : ∃ x, x = jobsCheck l := ⟨_, rfl⟩
    rw [← hx] at h1 ⊢
    have HX := Lib.hid hx
    clear h0 hx hl
    go_wp2_with fail
    refine bodyPost_ret (v := .tuple #[.slice none 0 0, .int .i64 x]) (by simp [results, Try.results38, go_sem]) rfl ?_
    exact ⟨none, 0, 0, x, rfl, HB1.out, fun _ => ⟨HX.out, rfl⟩, fun h => absurd h H0.out⟩
end Go.Proofs.Ytpinhmhempbmoaa
