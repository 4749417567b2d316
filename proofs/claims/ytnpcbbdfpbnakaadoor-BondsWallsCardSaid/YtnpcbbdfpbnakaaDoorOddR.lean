/- How many parts without a set have an odd number of nodes: the reference's count. Conditions: the edges read as a list and may be. -/
import Derived.Test.YtnpcbbdfpbnakaaDoorWithR
import Derived.Test.YtnpcbbdfpbnakaaDoorPartsB
namespace Go.Proofs.YtnpcbbdfpbnakaaDoor
open Go.RowKit
attribute [local go_sem ↓] w_and w_or w_xor w_andNot w_and1 w_and255 w_xor1 w_or0 w_shl w_shl1 w_shr w_sub w_add w_sub1 w_add1
attribute [local go_sem] w_eq0 w_ne0 w_eq1 w_eq w_ne

def cntTo (p : Nat → Nat) (x : BitVec 32) (i k : Nat) : Nat := (List.range k).countP fun j => decide (p j = i) && !x.getLsbD j
theorem cntTo_le (p : Nat → Nat) (x : BitVec 32) (i k : Nat) : cntTo p x i k ≤ k := by
  have := List.countP_le_length (p := fun j => decide (p j = i) && !x.getLsbD j) (l := List.range k)
  simpa [cntTo] using this
theorem cntTo_succ (p : Nat → Nat) (x : BitVec 32) (i k : Nat) : cntTo p x i (k + 1) = cntTo p x i k + if p k = i ∧ x.getLsbD k = false then 1 else 0 := by
  unfold cntTo
  rw [List.range_succ, List.countP_append]
  congr 1
  by_cases h : p k = i
  · rcases hx : x.getLsbD k with _ | _ <;> simp [h, hx]
  · simp [h]

set_option maxRecDepth 100000 in
set_option maxHeartbeats 1000000 in
theorem ref_Odd (N : Nat) (A : Option Addr) (n c : Nat) (l : List Ed) (p : Nat → Nat) (x : BitVec 32) (w : World) (hl : l.length = n) (hg : GoodG N l) (hp : ∀ j, j < N → IsPart (withoutE l x) j (p j)) (hr : Els w w.heap.size 3 Ed.cells A l) :
    Calls Tryd.prog 70 #[.agg #[.int .i64 N, .slice A n c], .int .u32 (wN x)] w fun e w' => e = .returned (.int .i64 (oddP p x N N : Nat)) ∧ Below w.heap.size w w' := by
  have hb0 := (Below.refl w.heap.size w).alloc (Nat.le_refl _) (.cells #[.int .i64 N, .slice A n c] 31)
  have hB0 := Blk.new w 31 #[.int .i64 N, .slice A n c]
  have HW := Lib.hid (ref_Without N A n c l x _ hl hg ((hr.below hb0).more hb0.size))
  have HB0 := Lib.hid hb0
  have HK0 := Lib.hid hB0
  have HG := Lib.hid hg
  have HP := Lib.hid hp
  have c0 := hB0.cell 0
  have c1 := hB0.cell 1
  have hN := hg.n10
  clear hr hb0 hB0 hl hg hp
  go_enter Tryd.func70, Tryd.ntmps70
  go_wp2_with fail
  refine HW.out.mono ?_
  clear HW c0 c1
  rintro e v1 ⟨A2, n2, c2, rfl, hb1, hlen, hels⟩
  have HB1 := Lib.hid (HB0.out.trans (hb1.mono (by rw [size_alloc']; omega)))
  have HK1 := Lib.hid (HK0.out.below hb1 (by rw [size_alloc']; omega))
  have HPA := Lib.hid (ref_Parts N A2 n2 c2 (withoutE l x) v1 hlen (without_good HG.out x) hels)
  clear hb1 HB0 HK0 hlen hels
  go_wp2_with fail
  refine HPA.out.mono ?_
  clear HPA
  rintro e v2 ⟨A3, c3, L, rfl, hb2, hL, hpl, hels⟩
  have hz1 := HB1.out.size
  have HB2 := Lib.hid (HB1.out.trans (hb2.mono hz1))
  have HK2 := Lib.hid (HK1.out.below hb2 HK1.out.lt)
  have hpv : ∀ j, (hj : j < N) → L.getD j 0 = (p j : Int) := fun j hj => by
    obtain ⟨q, h1, h2⟩ := hpl j (by rw [hL]; exact hj)
    rw [h1, h2.same (HP.out j hj)]
  have HPV := Lib.hid hpv
  have HL3 := Lib.hid hL
  have HE := Lib.hid hels
  have c0 := HK2.out.cell 0
  clear hb2 hL hpl hels hpv HB1 HK1
  go_wp2_with fail
  go_loop [6, 7] (fun s6 s7 => ∃ i : Nat, i ≤ N ∧ s7 = .int .i64 i ∧ s6 = .int .i64 (oddP p x N i : Nat)) (fun _ s7 => N - (intOf s7).toNat)
  case atStart => exact ⟨0, by omega, rfl, rfl⟩
  case round =>
    obtain ⟨i, hi, rfl, rfl⟩ := hrel
    have hle := oddP_le p x N i
    have HSU : Hid (oddP p x N (i + 1) = oddP p x N i + cntTo p x i N % 2) := Lib.hid rfl
    obtain ⟨on, hon⟩ : ∃ on, on = oddP p x N i := ⟨_, rfl⟩
    rw [← hon] at hle HSU ⊢
    have HON := Lib.hid hon
    clear hon
    by_cases hlt : i < N
    · go_wp2_with fail
      go_loop [8, 9] (fun s8 s9 => ∃ j : Nat, j ≤ N ∧ s9 = .int .i64 j ∧ s8 = .int .i64 (cntTo p x i j : Nat)) (fun _ s9 => N - (intOf s9).toNat)
      case atStart => exact ⟨0, by omega, rfl, rfl⟩
      case round =>
        obtain ⟨j, hj, rfl, rfl⟩ := hrel
        have hcl := cntTo_le p x i j
        have hcs := cntTo_succ p x i j
        obtain ⟨cn, hcn⟩ : ∃ cn, cn = cntTo p x i j := ⟨_, rfl⟩
        rw [← hcn] at hcl hcs ⊢
        have HCS := Lib.hid hcs
        have HCN := Lib.hid hcn
        clear hcs hcn
        by_cases hlj : j < N
        · obtain ⟨b, off, rfl, _, g0⟩ := HE.out.at1 (k := j) (by rw [HL3.out]; exact hlj)
          rw [← getD_at L j (by rw [HL3.out]; exact hlj) 0, HPV.out j hlj] at g0
          obtain ⟨pj, hpj⟩ : ∃ pj, pj = p j := ⟨_, rfl⟩
          rw [← hpj] at g0 HCS
          clear hpj
          by_cases hpi : pj = i
          · subst hpi
            obtain ⟨bx, hbx⟩ : ∃ bx, bx = x.getLsbD j := ⟨_, rfl⟩
            rw [← hbx] at HCS
            have HBX := Lib.hid hbx
            clear hbx
            go_wp2_with fail
            refine (Bit_any x j _).mono ?_
            rintro e w' ⟨rfl, rfl⟩
            rw [bitB_nat, ← HBX.out]
            cases bx with
            | true =>
              go_wp2_with fail
              go_round
              case rel => exact ⟨j + 1, by omega, by go_num, by rw [HCS.out]; simp⟩
              case measure => simp [intOf]; omega
            | false =>
              go_wp2_with fail
              go_round
              case rel => exact ⟨j + 1, by omega, by go_num, by rw [HCS.out]; simp⟩
              case measure => simp [intOf]; omega
          · have HC2 : Hid (cntTo p x i (j + 1) = cn) := Lib.hid (by rw [HCS.out, if_neg (fun h => hpi h.1)]; rfl)
            go_wp2_with fail
            go_round
            case rel => exact ⟨j + 1, by omega, by go_num, by rw [HC2.out]⟩
            case measure => simp [intOf]; omega
        · obtain rfl : j = N := by omega
          have htm : ((cn : Int).tmod 2) = ((cn % 2 : Nat) : Int) := (Int.ofNat_tmod cn 2).symm
          have HSU2 : Hid (oddP p x j (i + 1) = on + cn % 2) := Lib.hid (by rw [HSU.out, HCN.out])
          obtain ⟨r, hr⟩ : ∃ r, r = cn % 2 := ⟨_, rfl⟩
          rw [← hr] at htm HSU2
          have hr2 : r ≤ 1 := by omega
          clear hr
          go_wp2_with fail
          go_round
          case rel => exact ⟨i + 1, by omega, by go_num, by rw [HSU2.out]; go_num⟩
          case measure => simp [intOf]; omega
    · obtain rfl : i = N := by omega
      go_wp2_with fail
      go_ret
      exact ⟨ret_i64 (by rw [HON.out]), HB2.out⟩
end Go.Proofs.YtnpcbbdfpbnakaaDoor
