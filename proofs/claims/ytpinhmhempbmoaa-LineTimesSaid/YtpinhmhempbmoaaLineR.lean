/- The order of jobs: the reference's walk. Conditions: none. -/
import Derived.Test.YtpinhmhempbmoaaLineC
import Derived.Test.YtpinhmhempbmoaaEq
namespace Go.Proofs.Ytpinhmhempbmoaa
open Go.RowKit

def RefOrderIs (l : List Jb) (n : Nat) (w w' : World) (e : Ending) : Prop :=
  ∃ (A' : Option Addr) (k cap : Nat) (b : Bool), e = .returned (.tuple #[.slice A' k cap, .bool b]) ∧ Below w.heap.size w w' ∧
    (HasOrder l → b = true ∧ k = n ∧ Els w' w'.heap.size 1 icell A' (orderL l n)) ∧ (¬ HasOrder l → b = false)
def rdy (gone ls : List Int) (i : Int) (u : Nat) : Bool := !hasB gone i && (ls.take u).all (hasB gone)
theorem rdy_succ (gone ls : List Int) (i : Int) (u : Nat) (hu : u < ls.length) : rdy gone ls i (u + 1) = (rdy gone ls i u && hasB gone ls[u]) := by
  unfold rdy
  rw [List.take_succ_eq_append_getElem hu, List.all_append]
  simp [Bool.and_assoc]

set_option maxRecDepth 100000 in
set_option maxHeartbeats 1000000 in
theorem ref_Order (l : List Jb) (A : Option Addr) (n c : Nat) (w : World) (hl : l.length = n) (hg : GoodJs l) (hr : Els w w.heap.size 4 Jb.cells A l) (ha : Afters w w.heap.size l) :
    Calls Try.prog 13 #[.slice A n c] w fun e w' => RefOrderIs l n w w' e := by
  have h10 := hg.n10
  rw [hl] at h10
  have HL := Lib.hid hl
  have HR := Lib.hid hr
  have HA := Lib.hid ha
  have HG := Lib.hid hg
  clear hr ha hl hg
  go_enter Try.func13, Try.ntmps13
  go_wp2_with fail
  go_loopw [4] (fun s wr => ∃ (k : Nat) (A1 : Option Addr) (cap : Nat), k ≤ n ∧ s = .slice A1 k cap ∧ Below w.heap.size w wr ∧ Own wr w.heap.size 3 1 icell A1 cap (orderL l k) ∧ ∀ j, j < k → nextAt l j ≠ -1) (fun s _ => n - lenV s)
  case atStart => exact ⟨0, none, 0, by omega, rfl, Below.refl _ _, Own.nil _ _ _ (fun _ => rfl), fun j hj => by omega⟩
  case round =>
    rename World => wr
    obtain ⟨k, A1, cap, hk, rfl, hb, hown, hpre⟩ := hrel
    have hsz := hb.size
    have HB := Lib.hid hb
    have HO := Lib.hid hown
    have HP := Lib.hid hpre
    clear hb hown hpre
    by_cases hlt : k < n
    · obtain ⟨gone, hgone⟩ : ∃ g, g = orderL l k := ⟨_, rfl⟩
      have hgl : gone.length = k := by rw [hgone, orderL_length]
      have hnext : nextAt l k = nf (nextB l gone) n 0 := by unfold nextAt; rw [hgone, HL.out]
      have hog : Own wr w.heap.size 3 1 icell A1 cap gone := by rw [hgone]; exact HO.out
      have HHAS := Lib.hid (fun x => Has_any A1 k cap gone x wr.heap.size wr hgl (by unfold maxLen; omega) hog.els)
      have HGONE := Lib.hid hgone
      have HNEXT := Lib.hid hnext
      clear hgone hgl hnext hog
      go_wp2_with fail
      go_loop [6, 5] (fun s t => ∃ v : Int, -1 ≤ v ∧ v < n ∧ s = .int .i64 v ∧ t = .int .i64 (nf (nextB l gone) n (v + 1).toNat)) (fun s _ => (intOf s + 1).toNat)
      case atStart =>
        refine ⟨(n : Int) - 1, by omega, by omega, rfl, ?_⟩
        rw [show ((n : Int) - 1 + 1).toNat = n by omega, nf_end _ (Nat.le_refl _)]
      case round =>
        obtain ⟨v, hv1, hv2, rfl, rfl⟩ := hrel
        by_cases hv : 0 ≤ v
        · obtain ⟨i, rfl⟩ := Int.eq_ofNat_of_zero_le hv
          have hin : i < n := by omega
          have hil : i < l.length := by rw [HL.out]; exact hin
          rw [show ((i : Int) + 1).toNat = i + 1 by omega]
          obtain ⟨b, off, rfl, _, g0, g1, g2, g3⟩ := (HR.out.below HB.out).at4 (f := fun a : Jb => .int .i64 a.t) (g := fun a => a.s.val) (p := fun a => .int .i64 a.x) (q := fun a => .int .i64 a.y) hil
          have hmem := List.getElem_mem hil
          have haft := aft_at l hil
          have hm10 := HG.out.m10 _ hmem
          obtain ⟨j, hj⟩ : ∃ j, j = l[i] := ⟨_, rfl⟩
          rw [← hj] at g0 g1 g2 g3 hmem haft hm10
          obtain ⟨ha1, ha2⟩ := HA.out j hmem
          clear hj hmem
          obtain ⟨t, ⟨As, cs, ls⟩, x, y⟩ := j
          obtain ⟨m, hm⟩ : ∃ m, m = ls.length := ⟨_, rfl⟩
          have g1' : wr.cell? ⟨b, off + i * 4 + 1, none⟩ = some (.slice As m cs) := by rw [hm]; exact g1
          simp only at ha1 haft hm10
          rw [← hm] at hm10
          have HML := Lib.hid hm
          have HLS := Lib.hid (ha1.below HB.out)
          have hnb : nextB l gone i = rdy gone ls i m := by
            unfold nextB depB rdy
            rw [haft, hm, List.take_length]
          have HNB := Lib.hid hnb
          have HYES := Lib.hid (nf_yes (nextB l gone) hin)
          have HNO := Lib.hid (nf_no (nextB l gone) hin)
          clear g0 g2 g3 g1 ha1 ha2 hm haft hnb
          generalize hnx : nf (nextB l gone) n (i + 1) = nx at HNO
          have HNX := Lib.hid hnx
          clear hnx
          go_wp2_with fail
          refine (HHAS.out _).mono ?_
          rintro e w' ⟨rfl, rfl⟩
          have HR0 : Hid ((!hasB gone (i : Int)) = rdy gone ls i 0) := by
            show (!hasB gone (i : Int)) = rdy gone ls i 0
            unfold rdy
            simp
          generalize hasB gone (i : Int) = h0 at HR0
          go_wp2_with fail
          go_loop [32, 7] (fun s t => ∃ u : Nat, u ≤ m ∧ s = .int .i64 u ∧ t = .bool (rdy gone ls i u)) (fun s _ => m - (intOf s).toNat)
          case atStart => exact ⟨0, by omega, rfl, by rw [HR0.out]⟩
          case round =>
            obtain ⟨u, hu, rfl, rfl⟩ := hrel
            by_cases hlu : u < m
            · have hul : u < ls.length := by rw [← HML.out]; exact hlu
              obtain ⟨b2, off2, rfl, hbb2, f0⟩ := HLS.out.at1 hul
              have HS := Lib.hid (rdy_succ gone ls i u hul)
              obtain ⟨z, hz⟩ : ∃ z, z = ls[u] := ⟨_, rfl⟩
              rw [← hz] at f0
              have HZ := Lib.hid hz
              clear hz
              rcases hrd : rdy gone ls i u with _ | _
              · have HRD := Lib.hid hrd
                clear hrd
                go_wp2_with fail
                go_round
                case rel => exact ⟨u + 1, by omega, by go_num, by rw [HS.out, HRD.out]; rfl⟩
                case measure => simp [intOf]; omega
              · have HRD := Lib.hid hrd
                clear hrd
                go_wp2_with fail
                refine (HHAS.out _).mono ?_
                rintro e w' ⟨rfl, rfl⟩
                rcases hhz : hasB gone z with _ | _
                all_goals
                  have HHZ := Lib.hid hhz
                  clear hhz
                  go_wp2_with fail
                  go_round
                  case rel => exact ⟨u + 1, by omega, by go_num, by rw [HS.out, HRD.out, ← HZ.out, HHZ.out]; rfl⟩
                  case measure => simp [intOf]; omega
            · obtain rfl : u = m := by omega
              rcases hrd : rdy gone ls i u with _ | _
              · have HE := Lib.hid (HNO.out (by rw [HNB.out]; exact hrd))
                clear hrd
                go_wp2_with fail
                refine ⟨⟨(i : Int) - 1, by omega, by omega, by go_num, ?_⟩, by simp [intOf]⟩
                rw [show ((i : Int) - 1 + 1).toNat = i by omega, HE.out]
              · have HE := Lib.hid (HYES.out (by rw [HNB.out]; exact hrd))
                clear hrd
                go_wp2_with fail
                refine ⟨⟨(i : Int) - 1, by omega, by omega, by go_num, ?_⟩, by simp [intOf]⟩
                rw [show ((i : Int) - 1 + 1).toNat = i by omega, HE.out]
        · obtain rfl : v = -1 := by omega
          rw [show ((-1 : Int) + 1).toNat = 0 from rfl, ← HNEXT.out]
          rcases nextAt_cases l k with ⟨h1, _⟩ | ⟨i, h1, h2, _⟩
          · have H1 := Lib.hid h1
            rw [h1]
            clear h1 HHAS
            go_wp2_with fail
            refine bodyPost_ret (v := .tuple #[.slice none 0 0, .bool false]) (by simp [results, Try.results13, go_sem]) rfl ?_
            exact ⟨none, 0, 0, false, rfl, HB.out, fun h => absurd H1.out (h k (by rw [HL.out]; exact hlt)), fun _ => rfl⟩
          · have H1 := Lib.hid h1
            rw [h1]
            clear h1 HHAS
            go_wp2_with (at_builtin; go_must (
              refine wpList_push rfl _ _ _ rfl w.heap.size 1 3 (.int .i64 0) 8 Try.underlying28 (by kernel_rfl) rfl (by omega) icell wr #[.int .i64 i] A1 k cap (orderL l k) (orderL_length l k) rfl HO.out 1 [(i : Int)] rfl rfl wr.heap.size rfl rfl (by simp [Value.oneCell']) (by unfold maxLen; omega) (by omega) hsz ?_
              intro A2 cap2 w4 hown2 hgrow hloc))
            refine ⟨⟨k + 1, A2, cap2, by omega, rfl, (HB.out.alloc hsz _).grown hgrow (by rw [size_alloc']; omega) (fun g hg => (HO.out.lt g hg).1), ?_, ?_⟩, by simp [lenV]; omega⟩
            · rw [orderL_succ, H1.out]; exact hown2
            · intro j hj
              by_cases hjk : j = k
              · rw [hjk, H1.out]; omega
              · exact HP.out j (by omega)
    · obtain rfl : k = n := by omega
      go_wp2_with fail
      refine bodyPost_ret (v := .tuple #[.slice A1 k cap, .bool true]) (by simp [results, Try.results13, go_sem]) rfl ?_
      exact ⟨A1, k, cap, true, rfl, HB.out, fun _ => ⟨rfl, rfl, HO.out.els⟩, fun h => absurd (fun j hj => HP.out j (by rw [HL.out] at hj; exact hj)) h⟩

theorem afters_of {w : World} {l : List (Int × Sls Int × Int × Int)} (h : ∀ p ∈ l, OkI p.1 ∧ p.2.1.Good w w.heap.size 1 (fun n : Int => [.int .i64 n]) OkI ∧ OkI p.2.2.1 ∧ OkI p.2.2.2) : Afters w w.heap.size (l.map Jb.of) := by
  intro j hj
  obtain ⟨p, hp, rfl⟩ := List.mem_map.1 hj
  have := (h p hp).2.1
  exact ⟨this.2.2.1, this.1⟩
end Go.Proofs.Ytpinhmhempbmoaa
