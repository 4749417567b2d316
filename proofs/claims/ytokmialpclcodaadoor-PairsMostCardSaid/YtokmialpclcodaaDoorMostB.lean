/- How many can be paired; the words without one on the right: the program's walks. Conditions: the words read as a list; the table. -/
import Derived.Test.YtokmialpclcodaaDoorMostA
import Derived.Test.YtokmialpclcodaaDoorTailS
namespace Go.Proofs.YtokmialpclcodaaDoor
open Go.RowKit Go.Shelf
attribute [local go_sem ↓] w_and w_or w_xor w_andNot w_and1 w_and255 w_xor1 w_or0 w_shl w_shl1 w_shr w_sub w_add w_sub1 w_add1
attribute [local go_sem] w_eq0 w_ne0 w_eq1 w_eq w_ne

theorem none_ext {p : List Int} (h8 : p.length = 8) (h : ∀ j, j < 8 → la p j = -1) : p = List.replicate 8 (-1) := by
  refine List.ext_getElem (by simpa using h8) fun i h1 h2 => ?_
  rw [List.getElem_replicate]
  have := h i (by omega)
  unfold la at this
  rwa [getD_at p i h1] at this
set_option maxRecDepth 100000 in
set_option maxHeartbeats 1000000 in
theorem pairs_many (near : List (BitVec 32)) (n : Nat) (hn : near.length = n) (h8 : n ≤ 8) (hw : ∀ k q, Nr near k q → q < 8) (A : Option Addr) (c : Nat) (w : World) (hr : Els w w.heap.size 1 wcell A near) (htab : TabOk w) :
    Calls Tryd.prog 31 #[.slice A n c] w fun e w' => e = .returned (.int .i64 (mF near w0 : Nat)) ∧ Below w.heap.size w w' := by
  have h0w : 0 < w.heap.size := Nat.lt_of_le_of_lt (Nat.zero_le _) htab.1
  obtain ⟨G, hG⟩ : ∃ G, G = w.heap.size := ⟨_, rfl⟩
  obtain ⟨V, hV⟩ : ∃ V, V = w.alloc (.cells #[.int .i64 0, .int .i64 0, .int .i64 0, .int .i64 0, .int .i64 0, .int .i64 0, .int .i64 0, .int .i64 0] 94) := ⟨_, rfl⟩
  have hpb : PB V G (List.replicate 8 0) := by rw [hV, hG]; exact Blk.new w 94 #[.int .i64 0, .int .i64 0, .int .i64 0, .int .i64 0, .int .i64 0, .int .i64 0, .int .i64 0, .int .i64 0]
  have hbV : Below G w V := by rw [hV, hG]; exact (Below.refl _ w).alloc (Nat.le_refl _) _
  have HPB := Lib.hid hpb
  have HBV := Lib.hid hbV
  have HR := Lib.hid hr
  have HT := Lib.hid htab
  have HN := Lib.hid hn
  have HW := Lib.hid hw
  have HV := Lib.hid hV
  have HG := Lib.hid hG
  have HMF : Hid (mF near w0 = (manyTo near n).2) := Lib.hid (by rw [← hn, many_mF hw])
  clear hpb hbV hr htab hn hw hV hG
  go_enter Tryd.func31, Tryd.ntmps31
  go_wp2_with fail
  rw [← HV.out, ← HG.out]
  go_loopw [8] (fun s8 wr => ∃ (k : Nat) (p : List Int), k ≤ 8 ∧ s8 = .int .i64 k ∧ Below G w wr ∧ PB wr G p ∧ p.length = 8 ∧ ∀ j, j < k → la p j = -1) (fun s8 _ => 8 - (intOf s8).toNat)
  case atStart => exact ⟨0, _, by omega, rfl, HBV.out, HPB.out, rfl, fun j hj => by omega⟩
  case round =>
    clear HBV HPB HV
    rename World => wr
    obtain ⟨k, p, hk, rfl, hb, hp, hpl, hneg⟩ := hrel
    have HB := Lib.hid hb
    have HP := Lib.hid hp
    have HPL := Lib.hid hpl
    have HNEG := Lib.hid hneg
    by_cases hk8 : k < 8
    · have c0 := hp.cell (j := k) (by omega)
      have f0 := Blk.frozen hp k
      obtain ⟨x, hx⟩ : ∃ x, x = la p k := ⟨_, rfl⟩
      rw [← hx] at c0
      have hkI : (k : Int) < 8 := by omega
      clear hb hp hpl hneg hx
      go_wp2_with fail
      go_roundw
      case rel => exact ⟨k + 1, p.set k (-1), by omega, by go_num, HB.out.setCell (p := ⟨G, k, none⟩) (Nat.le_refl _) _, HP.out.put k (-1), by rw [List.length_set]; exact HPL.out, fun j hj => by
        rw [la_put (by rw [HPL.out]; exact hk8)]
        split
        · rfl
        · exact HNEG.out j (by omega)⟩
      case measure => simp [intOf]; omega
    · obtain rfl : k = 8 := by omega
      have hpe := none_ext hpl hneg
      subst hpe
      have HP1 : Hid (PB wr G (manyTo near 0).1) := Lib.hid hp
      have hgl := Blk.lt hp
      clear hb hp hpl hneg HPL HNEG HP
      go_wp2_with fail
      go_loopw [16, 5] (fun s16 s5 w2 => ∃ i : Nat, i ≤ n ∧ s16 = .int .i64 i ∧ s5 = .int .i64 ((manyTo near i).2 : Nat) ∧ Below G w w2 ∧ PB w2 G (manyTo near i).1) (fun s16 _ _ => n - (intOf s16).toNat)
      case atStart => exact ⟨0, by omega, rfl, rfl, HB.out, HP1.out⟩
      case round =>
        clear HB HP1 hgl
        rename World => w2
        obtain ⟨i, hi, rfl, rfl, hb, hp⟩ := hrel
        have HB := Lib.hid hb
        have hz := hb.size
        have hinv := many_inv HW.out i
        obtain ⟨p, hpp⟩ : ∃ p, p = (manyTo near i).1 := ⟨_, rfl⟩
        obtain ⟨m, hm⟩ : ∃ m, m = (manyTo near i).2 := ⟨_, rfl⟩
        have hst : manyTo near (i + 1) = ((tryF near 9 i p w0).2.1, if (tryF near 9 i p w0).1 = true then m + 1 else m) := by rw [hpp, hm, manyTo]
        rw [← hpp, ← hm] at hinv
        rw [← hpp] at hp
        rw [← hm]
        have hm8 : m ≤ 8 := by
          have h1 := hinv.num
          have h2 : sm (fun q => ind (decide (0 ≤ la p q))) 8 ≤ sm (fun _ => 1) 8 := sm_le _ fun q _ => by cases decide (0 ≤ la p q) <;> decide
          have h3 : sm (fun _ => 1) 8 = 8 := by decide
          omega
        have HMI := Lib.hid hm
        by_cases hin : i < n
        · have hgl := Blk.lt hp
          obtain ⟨Q, hQ⟩ : ∃ Q, Q = w2.heap.size := ⟨_, rfl⟩
          obtain ⟨V2, hV2⟩ : ∃ V2, V2 = w2.alloc (.cells #[.int .u32 0] 51) := ⟨_, rfl⟩
          have hqb : Blk V2 Q 51 #[.int .u32 (wN w0)] := by rw [hV2, hQ]; exact Blk.new w2 51 #[.int .u32 0]
          have hpV : PB V2 G p := by rw [hV2]; exact Blk.alloc hp _
          have hbV : Below G w V2 := by rw [hV2]; exact hb.alloc (by have := HG.out; omega) _
          have hr2 : Els V2 G 1 wcell A near := by
            have := HR.out.below (by rw [← HG.out]; exact hbV)
            rwa [← HG.out] at this
          have ht2 : TabOk V2 := HT.out.below hbV (by have := HG.out; omega)
          have hcall := pairs_try near n HN.out h8 HW.out A c G G Q (by have := HG.out; omega) (Nat.le_refl _) (by omega) (by omega) 9 i p w0 V2 hin hinv.len (fun j hj => by
            rcases hinv.vals j hj with h | ⟨k, h1, h2, _⟩
            · omega
            · omega) (by rw [unA_0]; decide) hr2 hpV hqb ht2
          obtain ⟨r, hr⟩ : ∃ r, r = tryF near 9 i p w0 := ⟨_, rfl⟩
          rw [← hr] at hcall hst
          have HC := Lib.hid hcall
          have HST := Lib.hid hst
          have HV2 := Lib.hid hV2
          have HQ := Lib.hid hQ
          have HBV := Lib.hid hbV
          have hzV := hbV.size
          clear hcall hst hr hV2 hQ hqb hpV hbV hr2 ht2 hb hp hpp hm hinv
          go_wp2_with fail
          rw [← HV2.out, ← HQ.out]
          refine HC.out.mono ?_
          clear HC
          rintro e v3 ⟨hh, rfl, hp3, -⟩
          have HB3 := Lib.hid (HBV.out.trans (hh.to (B := G) (by have := HG.out; omega) (by have := HQ.out; simp; omega)))
          have HP3 := Lib.hid hp3
          obtain ⟨ok, p3, a3⟩ := r
          simp only at HP3 HST ⊢
          clear hh hp3
          cases ok with
          | true =>
            have HS2 : Hid (manyTo near (i + 1) = (p3, m + 1)) := Lib.hid (by rw [HST.out]; rfl)
            go_wp2_with fail
            go_roundw
            case rel => exact ⟨i + 1, by omega, by go_num, by rw [HS2.out]; go_num, HB3.out, by rw [HS2.out]; exact HP3.out⟩
            case measure => simp [intOf]; omega
          | false =>
            have HS2 : Hid (manyTo near (i + 1) = (p3, m)) := Lib.hid (by rw [HST.out]; rfl)
            go_wp2_with fail
            go_roundw
            case rel => exact ⟨i + 1, by omega, by go_num, by rw [HS2.out], HB3.out, by rw [HS2.out]; exact HP3.out⟩
            case measure => simp [intOf]; omega
        · obtain rfl : i = n := by omega
          clear hst hb hp hpp hm hinv
          go_wp2_with fail
          go_ret
          exact ⟨by rw [HMF.out, ← HMI.out]; rfl, by rw [← HG.out]; exact HB.out⟩

set_option maxRecDepth 100000 in
set_option maxHeartbeats 1000000 in
theorem pairs_without (near : List (BitVec 32)) (n : Nat) (hn : near.length = n) (h8 : n ≤ 8) (A : Option Addr) (c k : Nat) (hc : n ≤ c) (hk : k ≤ n) (u : BitVec 32) (w : World) (hr : Els w w.heap.size 1 wcell A near) :
    Calls Tryd.prog 33 #[.slice A n c, .int .i64 k, .int .u32 (wN u)] w fun e w' => ∃ A' cap, e = .returned (.slice A' (n - k) cap) ∧ Below w.heap.size w w' ∧ Own w' w.heap.size 51 1 wcell A' cap ((near.drop k).map fun x => wBut x u) := by
  have hcut := hr.cut (k := k) (n := n) (cap := c) hn hc
  obtain ⟨A2, hA2⟩ : ∃ A2, A2 = (if c = k then A else A.map (·.add (k * 1))) := ⟨_, rfl⟩
  rw [← hA2] at hcut
  have hct : ∀ W0 : World, (Instr.slice 22 (.slice A n c) (some (.int .i64 (k : Int))) none none).run Tryd.prog W0 = .ok (.slice A2 (n - k) (c - k)) W0 := fun W0 => by
    have := run_tail Tryd.underlying22 (fun w => by kernel_rfl) A n c k hk hc (by omega) W0
    rw [this, ← hA2]
  obtain ⟨m, hm⟩ : ∃ m, m = n - k := ⟨_, rfl⟩
  obtain ⟨l, hl⟩ : ∃ l, l = near.drop k := ⟨_, rfl⟩
  have hll : l.length = m := by rw [hl, List.length_drop, hn, hm]
  rw [← hl] at hcut
  rw [← hm] at hct
  have hm8 : m ≤ 8 := by omega
  have HC := Lib.hid hcut
  have HLL := Lib.hid hll
  have HL := Lib.hid hl
  have HM := Lib.hid hm
  rw [← hm, ← hl]
  clear hcut hA2 hm hl hr hll hn
  go_enter Tryd.func33, Tryd.ntmps33
  go_wp2_with fail
  go_loopw [14, 7] (fun s14 s7 wr => ∃ (i : Nat) (A1 : Option Addr) (cap : Nat), i ≤ m ∧ s14 = .int .i64 i ∧ s7 = .slice A1 i cap ∧ Below w.heap.size w wr ∧ Own wr w.heap.size 51 1 wcell A1 cap ((l.take i).map fun x => wBut x u)) (fun s14 _ _ => m - (intOf s14).toNat)
  case atStart => exact ⟨0, none, 0, by omega, rfl, rfl, Below.refl _ _, Own.nil _ _ _ (fun _ => rfl)⟩
  case round =>
    rename World => wr
    obtain ⟨i, A1, cap, hi, rfl, rfl, hb, hown⟩ := hrel
    have hz := hb.size
    have HB := Lib.hid hb
    have HO := Lib.hid hown
    clear hb hown
    by_cases him : i < m
    · have hil : i < l.length := by rw [HLL.out]; exact him
      obtain ⟨b, off, rfl, _, g0⟩ := (HC.out.below HB.out).at1 (f := fun x : BitVec 32 => .int .u32 (wN x)) hil
      obtain ⟨x, hx⟩ : ∃ x, x = l[i] := ⟨_, rfl⟩
      rw [← hx] at g0
      have hsu : (l.take (i + 1)).map (fun x => wBut x u) = (l.take i).map (fun x => wBut x u) ++ [wBut x u] := by
        rw [List.take_succ_eq_append_getElem hil, List.map_append, ← hx]; rfl
      have hlen : ((l.take i).map fun x => wBut x u).length = i := by rw [List.length_map, List.length_take, HLL.out]; omega
      have HSU := Lib.hid hsu
      have HLE := Lib.hid hlen
      clear hx hsu hlen
      go_wp2_with (at_builtin; go_loud (refine wpList_push rfl _ _ _ rfl w.heap.size 1 51 (.int .u32 0) 4 Tryd.underlying22 (by kernel_rfl) rfl (by omega) wcell wr #[.int .u32 (wN (wBut x u))] A1 i cap ((l.take i).map fun x => wBut x u) HLE.out rfl HO.out 1 [wBut x u] rfl rfl _ rfl rfl (by simp [Value.oneCell']) (by unfold maxLen; omega) (by omega) hz ?_; intro A3 c3 w4 hown4 hgrow hloc))
      go_roundw
      case rel => exact ⟨i + 1, A3, c3, by omega, by go_num, rfl, (HB.out.alloc hz _).grown hgrow (by rw [size_alloc']; omega) (fun g hg => (HO.out.lt g hg).1), by rw [HSU.out]; exact hown4⟩
      case measure => simp [intOf]; omega
    · obtain rfl : i = m := by omega
      have hall : l.take i = l := List.take_of_length_le (by rw [HLL.out]; exact Nat.le_refl _)
      have HALL := Lib.hid hall
      clear hall
      go_wp2_with fail
      go_ret
      exact ⟨A1, cap, rfl, HB.out, by have := HO.out; rwa [HALL.out] at this⟩
end Go.Proofs.YtokmialpclcodaaDoor
