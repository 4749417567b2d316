/- slices.SortStableFunc of places, of any length: sorted by value, then by place. Conditions: the closure compares by value; the row is the caller's own. -/
import Derived.Test.YtjkfogkpacmdlaaStbI
import Derived.Test.YtjkfogkpacmdlaaStbJ
namespace Go.Proofs.Ytjkfogkpacmdlaa
open Go.RowKit

set_option maxRecDepth 100000 in
set_option maxHeartbeats 4000000 in
theorem stable_ (F : FuncId) (hF : Ent Try.prog F) (cap : Array Value) (V : Int → Int) (A : Option Addr) (n cp B : Nat) (w : World) (hB : B ≤ w.heap.size) (hn1 : n ≤ 1000) (hc : CmpV F cap V n B w) (ho : Own w B 3 1 icell A cp (restL n 0)) :
    Calls Try.prog 54 #[.slice A n cp, .int .i64 n, .func (.func F) #[] cap] w fun e w' => (∃ v, e = .returned v) ∧ Below B w w' ∧ ∃ u, Mrg V u (restL n 0) ∧ Own w' B 3 1 icell A cp u := by
  have HINS : Hid (∀ k a u wr, k * 20 = a → a ≤ n → StI V n 20 k u → Below B w wr → Own wr B 3 1 icell A cp u → ∀ b, b = min (a + 20) n → Calls Try.prog 65 #[.slice A n cp, .int .i64 a, .int .i64 (b : Nat), .func (.func F) #[] cap] wr fun e w' => (∃ v, e = .returned v) ∧ Below B w w' ∧ ∃ u', StI V n 20 (k + 1) u' ∧ Own w' B 3 1 icell A cp u') := Lib.hid (fun k a u wr hk ha hI hb ho1 b hbe => by
    subst hk
    have hlen := hI.len
    have hrest := hI.rest k (Nat.le_refl _)
    have e := seg_parts u (k * 20) 20
    refine (insert_range F hF cap V A n n cp B (k * 20) b (u.take (k * 20)) (seg u (k * 20) 20) (u.drop (k * 20 + 20)) w wr (Nat.le_trans hB hb.size) hb (by rw [List.length_take]; omega) (by rw [seg_len]; omega) (by rw [← e]; exact hlen) hn1 (by rw [hrest]; exact seg_up n _ _) (fun x hx => ?_) hc (by rw [← e]; exact ho1)).mono ?_
    · rw [hrest] at hx
      exact ⟨(seg_rest hx).2.2.2, (seg_rest hx).2.2.1⟩
    · rintro e w' ⟨hv, hb2, S, hS, ho2⟩
      exact ⟨hv, hb.trans hb2, _, hI.step ha hS, ho2⟩)
  have HMRG : Hid (∀ k bs a u wr, k * (2 * bs) = a → a + bs < n → 0 < bs → StM V n bs k u → Below B w wr → Own wr B 3 1 icell A cp u → ∀ b, b = min (a + 2 * bs) n → Calls Try.prog 66 #[.slice A n cp, .int .i64 a, .int .i64 ((a + bs : Nat) : Int), .int .i64 (b : Nat), .func (.func F) #[] cap] wr fun e w' => (∃ v, e = .returned v) ∧ Below B w w' ∧ ∃ u', StM V n bs (k + 1) u' ∧ Own w' B 3 1 icell A cp u') := Lib.hid (fun k bs a u wr hk ha hbs hI hb ho1 b hbe => by
    obtain ⟨L, R, _, _, e, h1, h2, h3, h4, h5, h6, h7, h8, h9⟩ := hI.two hk ha
    refine (sym_ok F hF cap V A n n cp B w hB hn1 hc (b - a + 1) a (a + bs) b (u.take a) L R (u.drop (a + 2 * bs)) wr hb h1 (by omega) (by omega) (by omega) (by omega) (by rw [← e]; exact hI.len) (by omega) h4 h5 h6 h7 h8 (by rw [← e]; exact ho1)).mono ?_
    rintro e w' ⟨hv, hb2, S, hS, ho2⟩
    exact ⟨hv, hb.trans hb2, _, h9 S hS, ho2⟩)
  have HO := Lib.hid ho
  clear ho hc
  go_enter Try.func54, Try.ntmps54
  go_wp2_with fail
  go_loopw [7, 8] (fun s7 s8 wr => ∃ (k : Nat) (u : List Int), s7 = .int .i64 ((k * 20 : Nat) : Int) ∧ s8 = .int .i64 ((k * 20 + 20 : Nat) : Int) ∧ k * 20 ≤ n ∧ Below B w wr ∧ StI V n 20 k u ∧ Own wr B 3 1 icell A cp u) (fun _ s8 _ => n + 20 - (intOf s8).toNat)
  case atStart => exact ⟨0, _, rfl, rfl, by omega, Below.refl _ _, StI.start V n 20, HO.out⟩
  case round =>
    clear HO
    rename World => wr
    obtain ⟨k, u, rfl, rfl, hkn, hb, hI, ho⟩ := hrel
    obtain ⟨a, ha⟩ : ∃ a, a = k * 20 := ⟨_, rfl⟩
    have HIN := Lib.hid (fun b => HINS.out k a u wr ha.symm (by omega) hI hb ho b)
    rw [← ha]
    by_cases hlt : a + 20 ≤ n
    · have HNX : Hid (∀ w2, Below B w w2 → (∃ u', StI V n 20 (k + 1) u' ∧ Own w2 B 3 1 icell A cp u') → ∃ (k : Nat) (u : List Int), Value.int .i64 ((a + 20 : Nat) : Int) = .int .i64 ((k * 20 : Nat) : Int) ∧ Value.int .i64 ((a + 20 + 20 : Nat) : Int) = .int .i64 ((k * 20 + 20 : Nat) : Int) ∧ k * 20 ≤ n ∧ Below B w w2 ∧ StI V n 20 k u ∧ Own w2 B 3 1 icell A cp u) := Lib.hid (fun w2 h1 ⟨u', h2, h3⟩ => ⟨k + 1, u', by rw [show (k + 1) * 20 = a + 20 by omega], by rw [show (k + 1) * 20 = a + 20 by omega], by omega, h1, h2, h3⟩)
      have HC := Lib.hid (HIN.out (a + 20) (by omega))
      obtain ⟨b, hbd⟩ : ∃ b, b = a + 20 := ⟨_, rfl⟩
      rw [← hbd] at HNX HC ⊢
      have hw : IntKind.i64.wrap ((b : Int) + 20) = ((b + 20 : Nat) : Int) := by rw [IntWalk.i64_in _ (by omega)]; omega
      have hbn : b ≤ n := by omega
      clear hb hI ho ha HIN hlt hbd
      go_wp2_with fail
      refine HC.out.mono ?_
      rintro e w2 ⟨⟨v, rfl⟩, hb, hu⟩
      have HN := Lib.hid (HNX.out w2 hb hu)
      clear hb hu HNX HC
      go_wp2_with fail
      go_roundw
      case rel => exact HN.out
      case measure => simp [intOf]; omega
    · have HC := Lib.hid (HIN.out n (by omega))
      have HAL : Hid (∀ u', StI V n 20 (k + 1) u' → StA V n 20 u') := Lib.hid (fun u' h => h.all (by omega))
      obtain ⟨b, hbd⟩ : ∃ b, b = a + 20 := ⟨_, rfl⟩
      have hbn : ¬ b ≤ n := by omega
      rw [← hbd]
      clear hb hI ho ha HIN hlt hbd HINS
      go_wp2_with fail
      refine HC.out.mono ?_
      rintro e w2 ⟨⟨v, rfl⟩, hb, u', hu, ho⟩
      have HA := Lib.hid (HAL.out u' hu)
      have HO := Lib.hid ho
      have HB := Lib.hid hb
      clear hb hu ho HC HAL
      go_wp2_with fail
      go_loopw [6, 7, 8, 9] (fun s6 _ _ _ wr => ∃ (bs : Nat) (u : List Int), s6 = .int .i64 (bs : Int) ∧ 0 < bs ∧ bs ≤ 2000 ∧ Below B w wr ∧ StA V n bs u ∧ Own wr B 3 1 icell A cp u) (fun s6 _ _ _ _ => 2001 - (intOf s6).toNat)
      case atStart => exact ⟨20, u', rfl, by omega, by omega, HB.out, HA.out, HO.out⟩
      case round =>
        clear HB HA HO
        rename World => wr
        obtain ⟨bs, u, rfl, hbs, hbs2, hb, hA, ho⟩ := hrel
        by_cases hlt : bs < n
        · have hw1 : IntKind.i64.wrap (2 * (bs : Int)) = ((2 * bs : Nat) : Int) := by rw [IntWalk.i64_in _ (by omega)]; omega
          have hw2 : IntKind.i64.wrap ((bs : Int) * 2) = ((2 * bs : Nat) : Int) := by rw [IntWalk.i64_in _ (by omega)]; omega
          have HB := Lib.hid hb
          have HM := Lib.hid hA.start
          have HO := Lib.hid ho
          obtain ⟨b2, hb2⟩ : ∃ b2, b2 = 2 * bs := ⟨_, rfl⟩
          rw [← hb2] at hw1 hw2
          have HB2 := Lib.hid hb2
          clear hb hA ho
          clear hb2
          go_wp2_with fail
          go_loopw [7, 8] (fun s7 s8 w2 => ∃ (k : Nat) (u : List Int), s7 = .int .i64 ((k * b2 : Nat) : Int) ∧ s8 = .int .i64 ((k * b2 + b2 : Nat) : Int) ∧ k * b2 ≤ n ∧ Below B w w2 ∧ StM V n bs k u ∧ Own w2 B 3 1 icell A cp u) (fun _ s8 _ => n + b2 - (intOf s8).toNat)
          case atStart => exact ⟨0, u, by simp, by simp, by omega, HB.out, HM.out, HO.out⟩
          case round =>
            clear HB HM HO
            rename World => w2
            obtain ⟨k, u, rfl, rfl, hkn, hb, hM, ho⟩ := hrel
            have hb2 := HB2.out
            obtain ⟨a, ha⟩ : ∃ a, a = k * b2 := ⟨_, rfl⟩
            have hka : k * (2 * bs) = a := by rw [ha, hb2]
            rw [← ha]
            by_cases hle : a + b2 ≤ n
            · have HNX : Hid (∀ w3, Below B w w3 → (∃ u', StM V n bs (k + 1) u' ∧ Own w3 B 3 1 icell A cp u') → ∃ (k : Nat) (u : List Int), Value.int .i64 ((a + b2 : Nat) : Int) = .int .i64 ((k * b2 : Nat) : Int) ∧ Value.int .i64 ((a + b2 + b2 : Nat) : Int) = .int .i64 ((k * b2 + b2 : Nat) : Int) ∧ k * b2 ≤ n ∧ Below B w w3 ∧ StM V n bs k u ∧ Own w3 B 3 1 icell A cp u) := Lib.hid (fun w3 h1 ⟨u', h2, h3⟩ => by
                have hs : (k + 1) * b2 = a + b2 := by rw [Nat.succ_mul, ha]
                exact ⟨k + 1, u', by rw [hs], by rw [hs], by omega, h1, h2, h3⟩)
              have HC := Lib.hid (HMRG.out k bs a u w2 hka (by omega) hbs hM hb ho (a + b2) (by omega))
              have hw3 : IntKind.i64.wrap ((a : Int) + bs) = ((a + bs : Nat) : Int) := by rw [IntWalk.i64_in _ (by omega)]; omega
              obtain ⟨b, hbd⟩ : ∃ b, b = a + b2 := ⟨_, rfl⟩
              rw [← hbd] at HNX HC ⊢
              have hw4 : IntKind.i64.wrap ((b : Int) + b2) = ((b + b2 : Nat) : Int) := by rw [IntWalk.i64_in _ (by omega)]; omega
              have hbn : b ≤ n := by omega
              have hb0 : 0 < b2 := by omega
              clear hb hM ho ha hka hle hbd hb2 HMRG
              go_wp2_with fail
              refine HC.out.mono ?_
              rintro e w3 ⟨⟨v, rfl⟩, hb, hu⟩
              have HN := Lib.hid (HNX.out w3 hb hu)
              clear hb hu HNX HC
              go_wp2_with fail
              go_roundw
              case rel => exact HN.out
              case measure => simp [intOf]; omega
            · have hw3 : IntKind.i64.wrap ((a : Int) + bs) = ((a + bs : Nat) : Int) := by rw [IntWalk.i64_in _ (by omega)]; omega
              obtain ⟨b, hbd⟩ : ∃ b, b = a + b2 := ⟨_, rfl⟩
              rw [← hbd]
              have hbn : ¬ b ≤ n := by omega
              have hb0 : 2001 - b2 < 2001 - bs := by omega
              have HFN : Hid (∀ w3 u, Below B w w3 → StA V n b2 u → Own w3 B 3 1 icell A cp u → ∃ (bs : Nat) (u : List Int), Value.int .i64 (b2 : Int) = .int .i64 (bs : Int) ∧ 0 < bs ∧ bs ≤ 2000 ∧ Below B w w3 ∧ StA V n bs u ∧ Own w3 B 3 1 icell A cp u) := Lib.hid (fun w3 u h1 h2 h3 => ⟨b2, u, rfl, by omega, by omega, h1, h2, h3⟩)
              by_cases hmn : a + bs < n
              · have HC := Lib.hid (HMRG.out k bs a u w2 hka (by omega) hbs hM hb ho n (by omega))
                have HAL : Hid (∀ u', StM V n bs (k + 1) u' → StA V n b2 u') := Lib.hid (fun u' h => by
                  rw [hb2]
                  refine h.all' ?_
                  rw [Nat.succ_mul]
                  omega)
                obtain ⟨m, hm⟩ : ∃ m, m = a + bs := ⟨_, rfl⟩
                rw [← hm] at hw3 hmn HC
                clear hb hM ho ha hka hle hbd hb2 HMRG hm
                go_wp2_with fail
                refine HC.out.mono ?_
                rintro e w3 ⟨⟨v, rfl⟩, hb, u', hu, ho⟩
                have HN := Lib.hid (HFN.out w3 u' hb (HAL.out u' hu) ho)
                clear hb hu ho HFN HC HAL
                go_wp2_with fail
                go_roundw
                case rel => exact HN.out
                case measure => simpa [intOf] using hb0
              · have HN := Lib.hid (HFN.out w2 u hb (by rw [hb2]; exact hM.all (by omega)) ho)
                obtain ⟨m, hm⟩ : ∃ m, m = a + bs := ⟨_, rfl⟩
                rw [← hm] at hw3 hmn
                clear hb hM ho ha hka hle hbd hb2 HMRG hm HFN
                go_wp2_with fail
                go_roundw
                case rel => exact HN.out
                case measure => simpa [intOf] using hb0
        · have HB := Lib.hid hb
          have HA := Lib.hid (hA.end (by omega))
          have HO := Lib.hid ho
          clear hb hA ho
          go_wp2_with fail
          go_end0
          exact ⟨⟨_, rfl⟩, HB.out, u, HA.out, HO.out⟩

set_option maxRecDepth 100000 in
theorem sort_places (F : FuncId) (hF : Ent Try.prog F) (cap : Array Value) (V : Int → Int) (A : Option Addr) (n cp B : Nat) (w : World) (hB : B ≤ w.heap.size) (hn1 : n ≤ 1000) (hc : CmpV F cap V n B w) (ho : Own w B 3 1 icell A cp (restL n 0)) :
    Calls Try.prog 37 #[.slice A n cp, .func (.func F) #[] cap] w fun e w' => (∃ v, e = .returned v) ∧ Below B w w' ∧ ∃ u, Mrg V u (restL n 0) ∧ Own w' B 3 1 icell A cp u := by
  have HS := Lib.hid (stable_ F hF cap V A n cp B w hB hn1 hc ho)
  clear hc ho
  go_enter Try.func37, Try.ntmps37
  go_wp2_with fail
  refine HS.out.mono ?_
  rintro e w' ⟨⟨v, rfl⟩, hb, hu⟩
  have HB := Lib.hid hb
  have HU := Lib.hid hu
  clear hb hu
  go_wp2_with fail
  go_end0
  exact ⟨⟨_, rfl⟩, HB.out, HU.out⟩
end Go.Proofs.Ytjkfogkpacmdlaa
