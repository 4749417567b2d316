/- The longest of what hangs on a job: the reference's walk. Conditions: the jobs have an order. -/
import Derived.Test.YtpinhmhempbmoaaTimesQ
import Derived.Test.YtpinhmhempbmoaaInts
import Derived.IntWalk
namespace Go.Proofs.Ytpinhmhempbmoaa
open Go.RowKit

theorem hasB_contains (l : List Nat) (k : Nat) : hasB (intsOf l) (k : Int) = l.contains k := by
  unfold hasB intsOf
  rw [Bool.eq_iff_iff, List.any_map, List.any_eq_true, List.contains_iff_mem]
  constructor
  · rintro ⟨x, hx, he⟩
    have he' : k = x := by simp at he; omega
    rw [he']; exact hx
  · intro h
    exact ⟨k, h, by simp⟩
theorem wrap_small {x : Int} (h0 : 0 ≤ x) (h1 : x ≤ 1000000000000) : IntKind.i64.wrap x = x := IntWalk.i64_in _ (by omega)

set_option maxRecDepth 100000 in
set_option maxHeartbeats 1000000 in
theorem ref_tail (n : Nat) (A : Option Addr) (c : Nat) (l : List Jb) (B : Nat) (hl : l.length = n) (hg : GoodJs l) (ho : HasOrder l) (T : Nat → Int) (hT : TailOk (planOf l) T) : ∀ i, i < n → ∀ w : World, Els w B 4 Jb.cells A l → Afters w B l →
    Calls Try.prog 42 #[.slice A n c, .int .i64 i] w fun e w' => e = .returned (.int .i64 (T i)) ∧ w' = w := by
  have hp := plan_ok hg ho
  have hn10 := hg.n10
  rw [hl] at hn10
  have hbd := fun i (hi : i < n) => tail_bound hp hT i (show i < (planOf l).n by show i < l.length; omega)
  have hpos := fun i => Int.le_trans (hp.tm i).1 (hT.pos i)
  intro i hi
  have key : ∀ (a : List Nat) (i : Nat) (b : List Nat), (planOf l).ord = a ++ i :: b → (∀ k ∈ b, ∃ q, q < b.length ∧ (fun (_ : Nat) (i : Nat) => ∀ w : World, Els w B 4 Jb.cells A l → Afters w B l → Calls Try.prog 42 #[.slice A n c, .int .i64 i] w fun e w' => e = .returned (.int .i64 (T i)) ∧ w' = w) q k) →
      (fun (_ : Nat) (i : Nat) => ∀ w : World, Els w B 4 Jb.cells A l → Afters w B l → Calls Try.prog 42 #[.slice A n c, .int .i64 i] w fun e w' => e = .returned (.int .i64 (T i)) ∧ w' = w) b.length i := by
    clear hi i
    intro a i b hab hall w hr ha
    have hin' : i < (planOf l).n := (hp.mem i).1 (by rw [hab]; simp)
    have hin : i < n := by rw [← hl]; exact hin'
    have HDB := Lib.hid (fun j (hj : j < n) (h : i ∈ (planOf l).A j) => by
      obtain ⟨_, _, hc⟩ := hall j (dep_back hp hab (show j < (planOf l).n by show j < l.length; omega) h)
      exact hc w hr ha)
    have HTH := Lib.hid (tail_hangs hT hin')
    have HBD := Lib.hid hbd
    have HPOS := Lib.hid hpos
    have HHS := Lib.hid (hangs_succ (p := planOf l) T i)
    have HHP := Lib.hid (hangs_pos (p := planOf l) T i)
    have HHB := Lib.hid (fun k => hangs_le (p := planOf l) (T := T) (i := i) (M := 10485760) (by omega) (fun k hk => by
      by_cases hkn : k < n
      · have h1 := hbd k hkn
        have h2 : ((planOf l).n : Int) ≤ 10 := by show (l.length : Int) ≤ 10; omega
        omega
      · rw [plan_far l k (by show l.length ≤ k; omega)] at hk; cases hk) k)
    have HR := Lib.hid hr
    have HA := Lib.hid ha
    have HL := Lib.hid hl
    have HG := Lib.hid hg
    have HPN : Hid ((planOf l).n = n) := Lib.hid (by show l.length = n; exact hl)
    have HTM : Hid (∀ i, 0 ≤ (planOf l).tm i ∧ (planOf l).tm i ≤ 1048576) := Lib.hid hp.tm
    obtain ⟨hg', hgg⟩ : ∃ hg', hg' = hangs (planOf l) T i := ⟨_, rfl⟩
    rw [← hgg] at HTH HHS HHP HHB
    have h0 : hg' 0 = 0 := by rw [hgg]; rfl
    clear hgg hall hab hr ha hl hg ho hT hp hbd hpos hin'
    go_enter Try.func42, Try.ntmps42
    go_wp2_with fail
    go_loopw [6, 5] (fun s6 s5 wr => ∃ k : Nat, k ≤ n ∧ s6 = .int .i64 k ∧ s5 = .int .i64 (hg' k) ∧ wr = w) (fun s6 _ _ => n - (intOf s6).toNat)
    case atStart => exact ⟨0, by omega, rfl, by rw [h0], rfl⟩
    case round =>
      obtain ⟨k, hk, rfl, rfl, rfl⟩ := hrel
      by_cases hlt : k < n
      · have hkl : k < l.length := by rw [HL.out]; exact hlt
        obtain ⟨ba, oa, rfl, _, g1, g2, g3, g4⟩ := HR.out.at4 (k := k) hkl
        have hgd : l[k] = jAt l k := (getD_at l k hkl _).symm
        rw [hgd] at g1 g2 g3 g4
        obtain ⟨ha1, ha2⟩ := HA.out (jAt l k) (jAt_mem hkl)
        have hm10 := HG.out.m10 _ (jAt_mem hkl)
        have hls := lsN_ints HG.out hkl
        have HIS := HHS.out k
        have HDK := Lib.hid (HDB.out k hlt)
        rw [show (planOf l).A k = lsN l k from rfl] at HIS HDK
        obtain ⟨jb, hjb⟩ : ∃ jb, jb = jAt l k := ⟨_, rfl⟩
        rw [← hjb] at g1 g2 g3 g4 ha1 ha2 hm10 hls
        obtain ⟨t, ⟨As, cs, ls⟩, x, y⟩ := jb
        obtain ⟨m, hm⟩ : ∃ m, m = ls.length := ⟨_, rfl⟩
        have g2' : wr.cell? ⟨ba, oa + k * 4 + 1, none⟩ = some (.slice As m cs) := by rw [hm]; exact g2
        simp only at g1 g3 g4 ha1 ha2 hm10 hls
        have HHAS := Lib.hid (Has_any As m cs ls (i : Int) B wr hm.symm (by rw [hm]; exact ha2) ha1)
        rw [← hls, hasB_contains] at HHAS
        have b0 := HHP.out k
        have b1 := HHB.out k
        have HIS := Lib.hid HIS
        clear hgd hjb hls hm ha1 ha2 g2 hm10
        rcases hc : (lsN l k).contains i with _ | _
        · rw [hc, Bool.false_and, if_neg (by decide)] at HIS
          rw [hc] at HHAS
          clear hc
          go_wp2_with fail
          refine HHAS.out.mono ?_
          clear HHAS
          rintro e w' ⟨rfl, rfl⟩
          go_wp2_with fail
          go_roundw
          case rel => exact ⟨k + 1, by omega, by go_num, by rw [HIS.out], trivial⟩
          case measure => simp [intOf]; omega
        · have HC := Lib.hid (HDK.out (List.contains_iff_mem.1 hc))
          rw [hc, Bool.true_and] at HIS
          rw [hc] at HHAS
          clear hc
          go_wp2_with fail
          refine HHAS.out.mono ?_
          clear HHAS
          rintro e w' ⟨rfl, rfl⟩
          by_cases hgt : hg' k < T k
          · have hd : decide (hg' k < T k) = true := decide_eq_true hgt
            rw [hd, if_pos rfl] at HIS
            go_wp2_with fail
            refine HC.out.mono ?_
            rintro e w' ⟨rfl, rfl⟩
            go_wp2_with fail
            refine HC.out.mono ?_
            clear HC
            rintro e w' ⟨rfl, rfl⟩
            go_wp2_with fail
            go_roundw
            case rel => exact ⟨k + 1, by omega, by go_num, by rw [HIS.out], trivial⟩
            case measure => simp [intOf]; omega
          · have hd : decide (hg' k < T k) = false := decide_eq_false hgt
            rw [hd, if_neg (by decide)] at HIS
            go_wp2_with fail
            refine HC.out.mono ?_
            clear HC
            rintro e w' ⟨rfl, rfl⟩
            go_wp2_with fail
            go_roundw
            case rel => exact ⟨k + 1, by omega, by go_num, by rw [HIS.out], trivial⟩
            case measure => simp [intOf]; omega
      · obtain rfl : k = n := by omega
        have hil : i < l.length := by rw [HL.out]; exact hin
        obtain ⟨ba, oa, rfl, _, g1, g2, g3, g4⟩ := HR.out.at4 (k := i) hil
        have hgd : l[i] = jAt l i := (getD_at l i hil _).symm
        rw [hgd] at g1 g2 g3 g4
        have hth := HTH.out
        rw [HPN.out] at hth
        rw [show (planOf l).tm i = (jAt l i).t from rfl] at hth
        have htm := HTM.out i
        rw [show (planOf l).tm i = (jAt l i).t from rfl] at htm
        have b0 := HHP.out k
        have b1 := HHB.out k
        have hw := wrap_small (x := hg' k + (jAt l i).t) (by omega) (by omega)
        have HTH := Lib.hid hth
        clear hth hgd
        go_wp2_with fail
        go_ret
        exact ⟨by rw [← HTH.out]; rfl, rfl⟩
  obtain ⟨_, _, H⟩ := ord_back hp key i (show i < (planOf l).n by show i < l.length; omega)
  exact H
end Go.Proofs.Ytpinhmhempbmoaa
